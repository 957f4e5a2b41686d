/- The document's drum: Sync, Delete. -/
import Derived.Test.YtnfecdjcddidgaaRefC
namespace Go.Proofs.Ytnfecdjcddidgaa
open Go.RowKit Go.Maps

theorem own_set {w : World} {B e sz n : Nat} {v : Value} {xs : List Value} (h : w.ownsRow B e sz v n xs) {g i : Nat} (hg : v.ownBlock = some g) (u : Value) : (w.setCell ⟨g, i, none⟩ u).ownsRow B e sz v n (xs.set i u) := by
  rcases h.2 with ⟨rfl, _⟩ | ⟨g', cap, cur, rfl, hb, hc, h1, h2, h3, h4⟩
  · cases hg
  · cases hg
    refine ⟨by rw [List.length_set]; exact h.1, .inr ⟨g', cap, cur.setIfInBounds i u, rfl, hb, heap_setCell hc i u, h1, h2, by simpa using h3, ?_⟩⟩
    rw [← h4, Array.toList_setIfInBounds, List.take_set]
theorem own_frozen {w : World} {B e sz n : Nat} {v : Value} {xs : List Value} (h : w.ownsRow B e sz v n xs) {g i : Nat} (hg : v.ownBlock = some g) : w.frozen? ⟨g, i, none⟩ = false := by
  obtain ⟨cs, hcs⟩ := own_block h hg
  exact heap_free hcs i

theorem rcells_app (a b : List RF) : rcells (a ++ b) = rcells a ++ rcells b := by simp [rcells]
theorem rcells_cons (f : RF) (b : List RF) : rcells (f :: b) = f.cells ++ rcells b := rfl
theorem rcells_set {a b : List RF} {f f' : RF} {j : Nat} {u : Value} (hj : j < 3) (h : f.cells.set j u = f'.cells) : (rcells (a ++ f :: b)).set (a.length * 3 + j) u = rcells (a ++ f' :: b) := by
  rw [rcells_app, rcells_app, rcells_cons, rcells_cons, List.set_append_right _ _ (by rw [rcells_length]; omega), rcells_length]
  congr 1
  rw [show a.length * 3 + j - a.length * 3 = j by omega, List.set_append_left _ _ (by simp [RF.cells]; omega), h]

/-- From w to w' the document's drum did step k. -/
def RDid (r : Nat) (lv : Value) (fs : List RF) (w w' : World) (k : Step) : Prop :=
  ∃ lv' fs', Rf w' r lv' fs' k.s ∧ rabs fs' = k.L ∧ Mod (fun b => b ∈ Rf.foot r lv fs) w w' ∧ ∀ b ∈ Rf.foot r lv' fs', b ∈ Rf.foot r lv fs ∨ w.heap.size ≤ b
def RRet (r : Nat) (lv : Value) (fs : List RF) (w : World) (k : Step) (e : Ending) (w' : World) : Prop := e = .returned (.int .i64 k.c) ∧ RDid r lv fs w w' k

theorem foot_r {r : Nat} {lv : Value} {fs : List RF} : r ∈ Rf.foot r lv fs := Rf.foot_spec.2 (.inl rfl)
theorem gst_ops (n : Int) (s : DSt) : (gst n s).ops = s.ops := by unfold gst; split; rfl; split <;> rfl
theorem gst_free (n : Int) (s : DSt) : (gst n s).free = s.free := by unfold gst; split; rfl; split <;> rfl

theorem Rf.bumped {w : World} {r : Nat} {lv : Value} {fs : List RF} {s : DSt} (h : Rf w r lv fs s) : Rf (w.setCell ⟨r, 4, none⟩ (.int .i64 (s.ops + 1))) r lv fs { s with ops := s.ops + 1 } :=
  h.set (s' := { s with ops := s.ops + 1 }) ((Mod.refl (· = r) w).setCell (p := ⟨r, 4, none⟩) (.inl rfl) _) rfl (heap_setCell h.st 4 _)
theorem Rf.bytes_kept {w w' : World} {r : Nat} {lv : Value} {fs : List RF} {s : DSt} (h : Rf w r lv fs s) {M : Nat → Prop} (hm : Mod M w w') (hM : ∀ k, M k → k = r ∨ lv.ownBlock = some k ∨ w.heap.size ≤ k) {f : RF} (hf : f ∈ fs) : OB w' 5 f.bv (f.safe ++ f.rest) :=
  own_kept (h.fl f hf) hm fun k hk hmk => by
    rcases hM k hmk with e | e | e
    · exact h.ne_b hf (e ▸ hk)
    · exact h.ne_lb hf e hk
    · exact absurd (own_lt (h.fl f hf) hk) (by omega)
theorem rsum_app (a b : List RF) : psum (rabs (a ++ b)) = psum (rabs a) + psum (rabs b) := by rw [rabs_app, psum_append]
theorem rsum_cons (f : RF) (b : List RF) : psum (rabs (f :: b)) = (f.safe.length + f.rest.length : Nat) + psum (rabs b) := rfl

theorem rsync_done {w w2 : World} {r : Nat} {lv : Value} {fs1 fs2 : List RF} {f : RF} {s : DSt} {lb : Nat} (h : Rf w2 r lv (fs1 ++ f :: fs2) s) (hlb : lv.ownBlock = some lb) (l1 : ∀ g ∈ fs1, g.n < f.n) (l2 : ∀ g ∈ fs2, f.n < g.n) (hm : Mod (· = r) w w2) :
    RDid r lv (fs1 ++ f :: fs2) w ((w2.setCell ⟨lb, fs1.length * 3 + 2, none⟩ (.int .i64 ((f.safe.length : Int) + f.rest.length))).setCell ⟨r, 4, none⟩ (.int .i64 (s.ops + 1))).drew (bump (syncF f.n (rabs (fs1 ++ f :: fs2)) s)) := by
  have hne : r ≠ lb := fun e => h.ne_l (e ▸ hlb)
  let f' : RF := ⟨f.n, f.bv, f.safe ++ f.rest, []⟩
  have hm1 : Mod (fun k => lv.ownBlock = some k) w2 (w2.setCell ⟨lb, fs1.length * 3 + 2, none⟩ (.int .i64 ((f.safe.length : Int) + f.rest.length))) := (Mod.refl (fun k => lv.ownBlock = some k) w2).setCell (p := ⟨lb, fs1.length * 3 + 2, none⟩) (.inl hlb) _
  have hsum : psum (rabs (fs1 ++ f' :: fs2)) = psum (rabs (fs1 ++ f :: fs2)) := by
    rw [rsum_app, rsum_app, rsum_cons, rsum_cons]; simp [f']
  have hR : Rf (w2.setCell ⟨lb, fs1.length * 3 + 2, none⟩ (.int .i64 ((f.safe.length : Int) + f.rest.length))) r lv (fs1 ++ f' :: fs2) s := by
    refine ⟨by rw [hsum]; exact heap_setCell_other h.st hne _, ?_, ?_, ?_, ?_, by rw [hsum]; exact h.room⟩
    · have := own_set (i := fs1.length * 3 + 2) h.ls hlb (.int .i64 ((f.safe.length : Int) + f.rest.length))
      rw [rcells_set (f' := f') (by omega) (by simp [RF.cells, f'])] at this
      simpa using this
    · intro g hg
      rcases List.mem_append.1 hg with hg | hg
      · exact h.bytes_kept hm1 (fun k hk => .inr (.inl hk)) (by simp [hg])
      · rcases List.mem_cons.1 hg with rfl | hg
        · have := h.bytes_kept hm1 (fun k hk => .inr (.inl hk)) (f := f) (by simp)
          simpa [f'] using this
        · exact h.bytes_kept hm1 (fun k hk => .inr (.inl hk)) (by simp [hg])
    · have := h.sorted
      rw [List.pairwise_append, List.pairwise_cons] at this ⊢
      refine ⟨this.1, this.2.1, fun a ha b hb => ?_⟩
      rcases List.mem_cons.1 hb with rfl | hb
      · exact this.2.2 a ha f (by simp)
      · exact this.2.2 a ha b (by simp [hb])
    · intro g hg
      rcases List.mem_append.1 hg with hg | hg
      · exact h.rng g (by simp [hg])
      · rcases List.mem_cons.1 hg with rfl | hg
        · exact h.rng f (by simp)
        · exact h.rng g (by simp [hg])
  have e1 : bump (syncF f.n (rabs (fs1 ++ f :: fs2)) s) = ⟨0, rabs (fs1 ++ f' :: fs2), { s with ops := s.ops + 1 }⟩ := by
    rw [syncF, rget_hit l1]
    have : pturn f.n PF.synced (rabs (fs1 ++ f :: fs2)) = rabs (fs1 ++ f' :: fs2) := by
      rw [rabs_app, rabs_cons, rabs_app, rabs_cons]; exact pturn_hit (f := f.abs) (rabs_lt l1) (rabs_gt l2)
    simp only [this, bump, if_true]
  rw [e1]
  refine ⟨lv, fs1 ++ f' :: fs2, hR.bumped.kept ((Mod.refl Nil _).drew) (fun _ _ h => h), rfl, ?_, fun b hb => .inl ?_⟩
  · exact (hm.trans hm1 (M := fun b => b ∈ Rf.foot r lv (fs1 ++ f :: fs2)) (fun k hk => .inl (hk ▸ foot_r)) (fun k hk => .inl (Rf.foot_spec.2 (.inr (.inl hk))))).setCell (p := ⟨r, 4, none⟩) (.inl foot_r) _ |>.drew
  · rcases Rf.foot_spec.1 hb with e | e | ⟨g, hg, e⟩
    · exact Rf.foot_spec.2 (.inl e)
    · exact Rf.foot_spec.2 (.inr (.inl e))
    · refine Rf.foot_spec.2 (.inr (.inr ?_))
      rcases List.mem_append.1 hg with hg | hg
      · exact ⟨g, by simp [hg], e⟩
      · rcases List.mem_cons.1 hg with rfl | hg
        · exact ⟨f, by simp, e⟩
        · exact ⟨g, by simp [hg], e⟩

theorem rnone {w w1 : World} {r : Nat} {lv : Value} {fs : List RF} {s : DSt} (h : Rf w1 r lv fs s) (hm : Mod (· = r) w w1) (c : Int) : RDid r lv fs w w1 ⟨c, rabs fs, s⟩ :=
  ⟨lv, fs, h, rfl, hm.mono fun k hk => .inl (hk ▸ foot_r), fun b hb => .inl hb⟩
theorem bump_miss (L : List PF) (s : DSt) {c : Int} (hc : c ≠ 0) : bump ⟨c, L, s⟩ = ⟨c, L, s⟩ := by rw [bump, if_neg hc]

set_option maxRecDepth 100000 in
set_option maxHeartbeats 1000000 in
theorem rsync_any {w : World} {r : Nat} {lv : Value} {fs : List RF} {s : DSt} (h : Rf w r lv fs s) (n : Int) (hf : Sane s) :
    Calls Try.prog 18 #[.pointer (some ⟨r, 0, none⟩), .int .i64 n] w (RRet r lv fs w (gated n (rabs fs) s (syncF n (rabs fs)))) := by
  have hbeg := begin_any h n hf.l
  have hsrt := h.sorted
  rw [gated_of]
  have hops := hf.o
  rw [← gst_ops n s] at hops
  obtain ⟨ho1, ho2⟩ := hops
  clear h hf
  by_cases hc : gcode n s = 0
  · rw [if_pos hc]
    rw [hc] at hbeg
    rcases rsplit n hsrt with ⟨fs1, f, fs2, rfl, rfl, l1, l2⟩ | ⟨fs1, fs2, rfl, l1, l2⟩
    · go_enter Try.func18, Try.ntmps18
      go_wp2_with fail
      refine hbeg.mono ?_
      rintro e w1 ⟨rfl, hR1, hm1⟩
      have hfind := find_any hR1 f.n l1 (fun g hg => (List.mem_cons.1 hg).elim (fun e => e ▸ Int.le_refl _) fun hg => Int.le_of_lt (l2 g hg))
      have hh : hdIs f.n (f :: fs2) = true := by simp [hdIs]
      rw [hh] at hfind
      have H1 := Lib.hid hR1
      have HM1 := Lib.hid hm1
      clear hR1 hm1 hbeg hc hh
      go_wp2_with fail
      refine hfind.mono ?_
      rintro e w2 ⟨rfl, hm2⟩
      have hR2 := H1.out.kept hm2 (fun k _ hk => hk)
      have hmm := HM1.out.trans hm2 (M := (· = r)) (fun _ h => .inl h) (fun _ h => h.elim)
      have hcnt := hR2.count
      obtain ⟨lb, c, hlv, hcl, k0, k1, k2⟩ := hR2.at_ (k := fs1.length) (by simp)
      rw [get_mid] at k1 k2
      obtain ⟨A1, x1, hbv, hx1, hSC⟩ := hR2.bytes (f := f) (by simp)
      have hfit := psum_mem (L := rabs (fs1 ++ f :: fs2)) (f := f.abs) (by simp [rabs])
      have hroom := hR2.room
      have hlb : lv.ownBlock = some lb := by rw [hlv]; rfl
      have hne : r ≠ lb := fun e => hR2.ne_l (e ▸ hlb)
      have c0 : w2.cell? ⟨r, 0, none⟩ = some lv := heap_cell hR2.st 0
      have c4 : w2.cell? ⟨r, 4, none⟩ = some (.int .i64 (gst f.n s).ops) := heap_cell hR2.st 4
      have z4 : w2.frozen? ⟨r, 4, none⟩ = false := heap_free hR2.st 4
      have zl : w2.frozen? ⟨lb, fs1.length * 3 + 2, none⟩ = false := own_frozen hR2.ls hlb
      have hl3 : (f.safe ++ f.rest).length ≤ 4194304 := by
        simp only [PF.sz, RF.abs] at hfit; rw [List.length_append]; omega
      rw [hlv] at c0
      rw [hbv] at k1
      rw [List.length_append] at k1 hl3
      have hlen : (fs1 ++ f :: fs2).length = fs1.length + (fs2.length + 1) := by simp
      rw [hlen] at c0 hcnt hcl
      have c4' : ∀ v, (w2.drew.setCell ⟨lb, fs1.length * 3 + 2, none⟩ v).cell? ⟨r, 4, none⟩ = some (.int .i64 (gst f.n s).ops) := fun v => (World.cell?_setCell_other _ _ _ _ (fun e => hne (congrArg Addr.block e).symm)).trans c4
      have H2 := Lib.hid hR2
      have HMM := Lib.hid hmm
      have HLV := Lib.hid hlv
      have HBV := Lib.hid hbv
      clear hfind hm2 hR2 hmm hlv hbv k0 hSC hfit hroom
      go_wp2
      refine wp_text mixed (by kernel_rfl) ?_
      go_wp2_with fail
      refine nf_end (by kernel_rfl) ?_
      go_wp2_with fail
      go_ret
      have hfin := rsync_done H2.out hlb l1 l2 HMM.out
      refine ⟨?_, ?_⟩
      · have : (bump (syncF f.n (rabs (fs1 ++ f :: fs2)) (gst f.n s))).c = 0 := by rw [syncF, rget_hit l1]; rfl
        rw [this]; rfl
      · exact hfin
    · have hno : bump (syncF n (rabs (fs1 ++ fs2)) (gst n s)) = ⟨7, rabs (fs1 ++ fs2), gst n s⟩ := by
        rw [syncF, rget_miss l1 l2]; rfl
      rw [hno]
      clear hno
      go_enter Try.func18, Try.ntmps18
      go_wp2_with fail
      refine hbeg.mono ?_
      rintro e w1 ⟨rfl, hR1, hm1⟩
      have hfind := find_any hR1 n l1 (fun g hg => Int.le_of_lt (l2 g hg))
      rw [hdIs_no l2] at hfind
      have hcnt := hR1.count
      rw [List.length_append] at hcnt
      have H1 := Lib.hid hR1
      have HM1 := Lib.hid hm1
      clear hR1 hm1 hbeg hc l1 l2
      go_wp2_with fail
      refine hfind.mono ?_
      rintro e w2 ⟨rfl, hm2⟩
      have HF := Lib.hid (rnone (H1.out.kept hm2 (fun k _ hk => hk)) (HM1.out.trans hm2 (M := (· = r)) (fun _ h => .inl h) (fun _ h => h.elim)) 7)
      clear hfind hm2
      go_wp2
      go_ret
      exact ⟨rfl, HF.out⟩
  · rw [if_neg hc]
    have hc' : (gcode n s == 0) = false := by simpa using hc
    go_enter Try.func18, Try.ntmps18
    go_wp2_with fail
    refine hbeg.mono ?_
    rintro e w1 ⟨rfl, hR1, hm1⟩
    have HF := Lib.hid (rnone hR1 hm1 (gcode n s))
    clear hR1 hm1 hbeg
    go_wp2
    go_ret
    exact ⟨rfl, HF.out⟩
end Go.Proofs.Ytnfecdjcddidgaa
