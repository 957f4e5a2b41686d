/- The document's drum: Delete. -/
import Derived.Test.YtnfecdjcddidgaaRefD
import Derived.Test.YtnfecdjcddidgaaHeldB
namespace Go.Proofs.Ytnfecdjcddidgaa
open Go.RowKit Go.Maps

theorem addr_add (g o j : Nat) : (⟨g, o, none⟩ : Addr).add j = ⟨g, o + j, none⟩ := by
  unfold Addr.add; split
  · rename_i h; simp only [Addr.mk.injEq, and_true, true_and]; omega
  · rfl
/-- An empty row of files' own. -/
def Z0 (w : World) : World := w.alloc (.cells #[] 83 (0, 0))
theorem Z0_own (w : World) : (Z0 w).ownsRow w.heap.size 83 3 (.slice (some ⟨w.heap.size, 0, none⟩) 0 0) 0 [] :=
  ⟨rfl, .inr ⟨w.heap.size, 0, #[], rfl, Nat.le_refl _, heap_new _ _, Nat.le_refl _, by decide, rfl, rfl⟩⟩
theorem Z0_mod (w : World) : Mod Nil w (Z0 w) := (Mod.refl Nil w).alloc _
theorem rcells_one (fs : List RF) (h : ∀ f ∈ fs, f.bv.oneCell' = true) : ∀ u ∈ rcells fs, u.oneCell' = true := by
  intro u hu
  obtain ⟨f, hf, hu⟩ := List.mem_flatMap.1 hu
  simp only [RF.cells, List.mem_cons, List.not_mem_nil, or_false] at hu
  rcases hu with rfl | rfl | rfl
  · rfl
  · exact h f hf
  · rfl
theorem own_one {w : World} {B e sz n : Nat} {v : Value} {xs : List Value} (h : w.ownsRow B e sz v n xs) : v.oneCell' = true := by
  obtain ⟨A, c, rfl, _⟩ := own_form h; rfl
/-- A part of the list's cells. -/
theorem Rf.part {w : World} {r : Nat} {lv : Value} {a b c : List RF} {s : DSt} (h : Rf w r lv (a ++ b ++ c) s) {lb : Nat} (hlb : lv.ownBlock = some lb) : ∀ j u, (rcells b)[j]? = some u → w.cell? ⟨lb, a.length * 3 + j, none⟩ = some u := by
  intro j u hu
  have hc := h.ls.cells hlb (a.length * 3 + j) u (by
    rw [rcells_app, rcells_app, List.append_assoc, List.getElem?_append_right (by rw [rcells_length]; omega), rcells_length, show a.length * 3 + j - a.length * 3 = j by omega]
    rw [List.getElem?_append_left (by have := (List.getElem?_eq_some_iff.1 hu).1; exact this)]
    exact hu)
  rw [addr_add, Nat.zero_add] at hc
  exact hc

theorem rdel_done {w w2 w4 : World} {r : Nat} {lv v2 : Value} {fs1 fs2 : List RF} {f : RF} {s : DSt} (h : Rf w2 r lv (fs1 ++ f :: fs2) s) (l1 : ∀ g ∈ fs1, g.n < f.n) (l2 : ∀ g ∈ fs2, f.n < g.n) (hm : Mod (· = r) w w2) (hm4 : Mod Nil w2 w4)
    (hown : w4.ownsRow w2.heap.size 83 3 v2 (fs1 ++ fs2).length (rcells (fs1 ++ fs2))) :
    RDid r lv (fs1 ++ f :: fs2) w ((w4.setCell ⟨r, 0, none⟩ v2).setCell ⟨r, 4, none⟩ (.int .i64 (s.ops + 1))) (bump (delF f.n (rabs (fs1 ++ f :: fs2)) s)) := by
  have hr := heap_lt h.st
  have hm5 : Mod (· = r) w2 (w4.setCell ⟨r, 0, none⟩ v2) := Mod.setCell (M := (· = r)) (hm4.mono fun _ h => h.elim) (p := ⟨r, 0, none⟩) (.inl rfl) _
  have hsub : (fs1 ++ fs2).Sublist (fs1 ++ f :: fs2) := List.Sublist.append (List.Sublist.refl _) (List.sublist_cons_self _ _)
  have hsum : (s.free + (f.abs.sz : Nat) : Int) + psum (rabs (fs1 ++ fs2)) = s.free + psum (rabs (fs1 ++ f :: fs2)) := by
    rw [rsum_app, rsum_app, rsum_cons]; simp only [PF.sz, RF.abs]; omega
  have hR : Rf (w4.setCell ⟨r, 0, none⟩ v2) r v2 (fs1 ++ fs2) { s with free := s.free + f.abs.sz } := by
    refine ⟨?_, ?_, fun g hg => h.bytes_kept hm5 (fun k hk => .inl hk) (hsub.subset hg), h.sorted.sublist hsub, fun g hg => h.rng g (hsub.subset hg), ?_⟩
    · show _ = some (Obj.cells #[v2, .int .i64 ((s.free + (f.abs.sz : Nat) : Int) + psum (rabs (fs1 ++ fs2))), .int .i64 s.left, .bool s.dead, .int .i64 s.ops] 46 (0, 0))
      rw [hsum]
      exact heap_setCell (heap_mod h.st hm4 (fun h => h)) 0 v2
    · exact own_base (own_kept hown ((Mod.refl (· = r) w4).setCell (p := ⟨r, 0, none⟩) (.inl rfl) _) fun k hk e => by have := (hown.lt k hk).1; omega) fun _ _ => Nat.zero_le _
    · have := h.room
      rw [rsum_app, rsum_cons] at this
      rw [rsum_app]
      simp only [PF.sz, RF.abs]
      omega
  have e1 : bump (delF f.n (rabs (fs1 ++ f :: fs2)) s) = ⟨0, rabs (fs1 ++ fs2), { s with free := s.free + f.abs.sz, ops := s.ops + 1 }⟩ := by
    rw [delF, rget_hit l1]
    have : pdrop f.n (rabs (fs1 ++ f :: fs2)) = rabs (fs1 ++ fs2) := by
      rw [rabs_app, rabs_cons, rabs_app]; exact pdrop_hit (f := f.abs) (rabs_lt l1) (rabs_gt l2)
    simp only [this, bump, if_true]
  rw [e1]
  refine ⟨v2, fs1 ++ fs2, hR.bumped, rfl, ?_, fun b hb => ?_⟩
  · exact ((hm.trans hm5 (M := fun b => b ∈ Rf.foot r lv (fs1 ++ f :: fs2)) (fun k hk => .inl (hk ▸ foot_r)) (fun k hk => .inl (hk ▸ foot_r))).setCell (p := ⟨r, 4, none⟩) (.inl foot_r) _)
  · rcases Rf.foot_spec.1 hb with e | e | ⟨g, hg, e⟩
    · exact .inl (Rf.foot_spec.2 (.inl e))
    · exact .inr (Nat.le_trans hm.size (hown.lt b e).1)
    · exact .inl (Rf.foot_spec.2 (.inr (.inr ⟨g, hsub.subset hg, e⟩)))

set_option maxRecDepth 100000 in
set_option maxHeartbeats 1000000 in
theorem rdel_any {w : World} {r : Nat} {lv : Value} {fs : List RF} {s : DSt} (h : Rf w r lv fs s) (n : Int) (hf : Sane s) :
    Calls Try.prog 20 #[.pointer (some ⟨r, 0, none⟩), .int .i64 n] w (RRet r lv fs w (gated n (rabs fs) s (delF n (rabs fs)))) := by
  have hbeg := begin_any h n hf.l
  have hsrt := h.sorted
  rw [gated_of]
  have hops := hf.o
  rw [← gst_ops n s] at hops
  obtain ⟨ho1, ho2⟩ := hops
  clear h hf
  by_cases hc : gcode n s = 0
  · rw [if_pos hc]
    rw [hc] at hbeg
    rcases rsplit n hsrt with ⟨fs1, f, fs2, rfl, rfl, l1, l2⟩ | ⟨fs1, fs2, rfl, l1, l2⟩
    · go_enter Try.func20, Try.ntmps20
      go_wp2_with fail
      refine hbeg.mono ?_
      rintro e w1 ⟨rfl, hR1, hm1⟩
      have hfind := find_any hR1 f.n l1 (fun g hg => (List.mem_cons.1 hg).elim (fun e => e ▸ Int.le_refl _) fun hg => Int.le_of_lt (l2 g hg))
      have hh : hdIs f.n (f :: fs2) = true := by simp [hdIs]
      rw [hh] at hfind
      have H1 := Lib.hid hR1
      have HM1 := Lib.hid hm1
      clear hR1 hm1 hbeg hc hh
      go_wp2_with fail
      refine hfind.mono ?_
      rintro e w2 ⟨rfl, hm2⟩
      have hR2 := H1.out.kept hm2 (fun k _ hk => hk)
      have hmm := HM1.out.trans hm2 (M := (· = r)) (fun _ h => .inl h) (fun _ h => h.elim)
      have hcnt := hR2.count
      obtain ⟨lb, c, hlv, hcl, k0, k1, k2⟩ := hR2.at_ (k := fs1.length) (by simp)
      have hlb : lv.ownBlock = some lb := by rw [hlv]; rfl
      have hne : r ≠ lb := fun e => hR2.ne_l (e ▸ hlb)
      have c0 : w2.cell? ⟨r, 0, none⟩ = some lv := heap_cell hR2.st 0
      have z0 : w2.frozen? ⟨r, 0, none⟩ = false := heap_free hR2.st 0
      have c4 : w2.cell? ⟨r, 4, none⟩ = some (.int .i64 (gst f.n s).ops) := heap_cell hR2.st 4
      have z4 : w2.frozen? ⟨r, 4, none⟩ = false := heap_free hR2.st 4
      rw [hlv] at c0
      have hlen : (fs1 ++ f :: fs2).length = fs1.length + (fs2.length + 1) := by simp
      rw [hlen] at c0 hcnt hcl
      have hrlt : r < w2.heap.size := heap_lt hR2.st
      have hp1 := Rf.part (a := []) (b := fs1) (c := f :: fs2) hR2 hlb
      have hp2 := Rf.part (a := fs1 ++ [f]) (b := fs2) (c := []) (by simpa using hR2) hlb
      have hone1 := rcells_one fs1 (fun g hg => own_one (hR2.fl g (by simp [hg])))
      have hone2 := rcells_one fs2 (fun g hg => own_one (hR2.fl g (by simp [hg])))
      have hown0 : (w2.alloc (.cells #[] 83 (0, 0))).drew.ownsRow w2.heap.size 83 3 (.slice (some ⟨w2.heap.size, 0, none⟩) 0 0) 0 [] := Z0_own w2
      have hlblt : lb < w2.heap.size := own_lt hR2.ls hlb
      have hnew1 : ∀ ad, some (⟨lb, 0, none⟩ : Addr) = some ad → ∀ j u, (rcells fs1)[j]? = some u → (w2.alloc (.cells #[] 83 (0, 0))).drew.cell? (ad.add j) = some u := by
        rintro ad e j u hu
        cases e
        rw [addr_add, World.cell?_of_block (w := w2) (((Mod.refl Nil w2).alloc _).drew.block _ hlblt (fun h => h))]
        simpa using hp1 j u hu
      have hmA : Mod Nil w2 (w2.alloc (.cells #[] 83 (0, 0))).drew := ((Mod.refl Nil w2).alloc _).drew
      have hszA := hmA.size
      have HMA := Lib.hid hmA
      have hnl := rcells_length fs1
      have H2 := Lib.hid hR2
      have HMM := Lib.hid hmm
      have HLV := Lib.hid hlv
      have HP2 := Lib.hid hp2
      have HL := Lib.hid hlen
      clear hfind hm2 hR2 hmm hlv k0 k1 k2 hp1 hp2 hlen
      by_cases hcc : c = fs1.length + 1
      · subst hcc
        have hfs2 : fs2 = [] := List.eq_nil_of_length_eq_zero (by omega)
        subst hfs2
        simp only [List.length_nil, Nat.zero_add] at c0 hcnt
        go_wp2
        refine wp_held [0, 2, 0, 0, 0, 3, 0, 0, 2, 0, 0, 0, 3, 0, 0, 0, 2, 0, 0, 2] [2, 7, 8] [⟨5, 44, .tmp 26, ⟨r, 0, none⟩, .slice (some ⟨lb, 0, none⟩) (fs1.length + 1) (fs1.length + 1)⟩, ⟨12, 44, .tmp 33, ⟨r, 0, none⟩, .slice (some ⟨lb, 0, none⟩) (fs1.length + 1) (fs1.length + 1)⟩] mixed (by kernel_rfl) (JH.cons c0 (JH.one c0)) ?_
        simp only [wpCut, List.take_succ_cons, List.take_zero, List.drop_succ_cons, List.drop_zero]
        go_wp2_with fail
        have cA := (World.cell?_of_block (HMA.out.block r hrlt (fun h => h)) (a := ⟨r, 0, none⟩)).trans c0
        refine nf_cut (JH.cons cA (JH.one cA)) ?_
        go_wp2_with (at_builtin; refine wp_append rfl _ _ 44 83 rfl (.agg #[.int .i64 0, .slice none 0 0, .int .i64 0]) 3 40 Try.underlying44 info83 rfl (by omega) (by omega) w2.heap.size (.slice (some ⟨w2.heap.size, 0, none⟩) 0 0) 0 [] rfl hown0 (some ⟨lb, 0, none⟩) fs1.length _ (rcells fs1) rfl hnl (fun e => by cases e) hnew1 hone1 (by omega) hszA ?_; intro v1 w3 hown1 hg1 hb1 hn1; have hm3 := HMA.out.grown hg1 (fun k hk => .inr (by have := Option.some.inj hk; simp only at this; omega)); have c0' := (World.cell?_of_block (hm3.block r hrlt (fun h => h)) (a := ⟨r, 0, none⟩)).trans c0; have hsz3 := hm3.size; rw [Nat.zero_add, List.nil_append] at hown1; have HM3 := Lib.hid hm3; clear hm3)
        refine nf_cut (JH.cons c0' (JH.one c0')) ?_
        go_wp2_with (at_builtin; refine wp_append rfl _ _ 44 83 rfl (.agg #[.int .i64 0, .slice none 0 0, .int .i64 0]) 3 40 Try.underlying44 info83 rfl (by omega) (by omega) w2.heap.size v1 fs1.length (rcells fs1) rfl hown1 _ _ _ (rcells []) rfl (by first | (rw [rcells_length]; done) | (rw [rcells_length]; omega)) (fun e => by cases e) (by intro ad e j u hu; simp [rcells] at hu) hone2 (by omega) hsz3 ?_; intro v2 w4 hown2 hg2 hb2 hn2; obtain ⟨A4, x4, rfl, _⟩ := own_form hown2; have hm4 := HM3.out.grown hg2 (fun k hk => .inr (hown1.lt k hk).1); have z0' := (World.frozen?_of_block (hm4.block r hrlt (fun h => h)) (a := ⟨r, 0, none⟩)).trans z0; have z4' := (World.frozen?_of_block (hm4.block r hrlt (fun h => h)) (a := ⟨r, 4, none⟩)).trans z4; have c4' := (World.cell?_of_block (hm4.block r hrlt (fun h => h)) (a := ⟨r, 4, none⟩)).trans c4; have c0'' := (World.cell?_of_block (hm4.block r hrlt (fun h => h)) (a := ⟨r, 0, none⟩)).trans c0; have HM4 := Lib.hid hm4; clear hm4)
        refine nf_cut (JH.cons c0'' (JH.one c0'')) ?_
        go_wp2_with fail
        refine nf_last (by kernel_rfl) ⟨rfl, rfl, trivial⟩ ?_
        go_wp2_with fail
        go_ret
        refine ⟨?_, ?_⟩
        · have : (bump (delF f.n (rabs (fs1 ++ f :: ([] : List RF))) (gst f.n s))).c = 0 := by rw [delF, rget_hit l1]; rfl
          rw [this]; rfl
        · refine rdel_done H2.out l1 l2 HMM.out HM4.out ?_
          simpa [rcells_app, rcells] using hown2
      · have hcc' : fs1.length + 1 < c := by omega
        go_wp2
        refine wp_held [0, 2, 0, 0, 0, 3, 0, 0, 2, 0, 0, 0, 3, 0, 0, 0, 2, 0, 0, 2] [2, 7, 8] [⟨5, 44, .tmp 26, ⟨r, 0, none⟩, .slice (some ⟨lb, 0, none⟩) (fs1.length + (fs2.length + 1)) c⟩, ⟨12, 44, .tmp 33, ⟨r, 0, none⟩, .slice (some ⟨lb, 0, none⟩) (fs1.length + (fs2.length + 1)) c⟩] mixed (by kernel_rfl) (JH.cons c0 (JH.one c0)) ?_
        simp only [wpCut, List.take_succ_cons, List.take_zero, List.drop_succ_cons, List.drop_zero]
        go_wp2_with fail
        have cA := (World.cell?_of_block (HMA.out.block r hrlt (fun h => h)) (a := ⟨r, 0, none⟩)).trans c0
        refine nf_cut (JH.cons cA (JH.one cA)) ?_
        go_wp2_with (at_builtin; refine wp_append rfl _ _ 44 83 rfl (.agg #[.int .i64 0, .slice none 0 0, .int .i64 0]) 3 40 Try.underlying44 info83 rfl (by omega) (by omega) w2.heap.size (.slice (some ⟨w2.heap.size, 0, none⟩) 0 0) 0 [] rfl hown0 (some ⟨lb, 0, none⟩) fs1.length _ (rcells fs1) rfl hnl (fun e => by cases e) hnew1 hone1 (by omega) hszA ?_; intro v1 w3 hown1 hg1 hb1 hn1; have hm3 := HMA.out.grown hg1 (fun k hk => .inr (by have := Option.some.inj hk; simp only at this; omega)); have c0' := (World.cell?_of_block (hm3.block r hrlt (fun h => h)) (a := ⟨r, 0, none⟩)).trans c0; have hsz3 := hm3.size; rw [Nat.zero_add, List.nil_append] at hown1; have HM3 := Lib.hid hm3; clear hm3)
        refine nf_cut (JH.cons c0' (JH.one c0')) ?_
        go_wp2_with (at_builtin; refine wp_append rfl _ _ 44 83 rfl (.agg #[.int .i64 0, .slice none 0 0, .int .i64 0]) 3 40 Try.underlying44 info83 rfl (by omega) (by omega) w2.heap.size v1 fs1.length (rcells fs1) rfl hown1 _ _ _ (rcells fs2) rfl (by first | (rw [rcells_length]; done) | (rw [rcells_length]; omega)) (fun e => by cases e) (by rintro ad e j u hu; cases e; have hj := HP2.out j u hu; rw [addr_add, World.cell?_of_block (HM3.out.block _ hlblt (fun h => h))]; simpa using hj) hone2 (by omega) hsz3 ?_; intro v2 w4 hown2 hg2 hb2 hn2; obtain ⟨A4, x4, rfl, _⟩ := own_form hown2; have hm4 := HM3.out.grown hg2 (fun k hk => .inr (hown1.lt k hk).1); have z0' := (World.frozen?_of_block (hm4.block r hrlt (fun h => h)) (a := ⟨r, 0, none⟩)).trans z0; have z4' := (World.frozen?_of_block (hm4.block r hrlt (fun h => h)) (a := ⟨r, 4, none⟩)).trans z4; have c4' := (World.cell?_of_block (hm4.block r hrlt (fun h => h)) (a := ⟨r, 4, none⟩)).trans c4; have c0'' := (World.cell?_of_block (hm4.block r hrlt (fun h => h)) (a := ⟨r, 0, none⟩)).trans c0; have HM4 := Lib.hid hm4; clear hm4)
        refine nf_cut (JH.cons c0'' (JH.one c0'')) ?_
        go_wp2_with fail
        refine nf_last (by kernel_rfl) ⟨rfl, rfl, trivial⟩ ?_
        go_wp2_with fail
        go_ret
        refine ⟨?_, ?_⟩
        · have : (bump (delF f.n (rabs (fs1 ++ f :: fs2)) (gst f.n s))).c = 0 := by rw [delF, rget_hit l1]; rfl
          rw [this]; rfl
        · refine rdel_done H2.out l1 l2 HMM.out HM4.out ?_
          have e : fs1.length + (fs1.length + (fs2.length + 1) - (fs1.length + 1)) = (fs1 ++ fs2).length := by rw [List.length_append]; omega
          rw [rcells_app, ← e]
          exact hown2
    · have hno : bump (delF n (rabs (fs1 ++ fs2)) (gst n s)) = ⟨7, rabs (fs1 ++ fs2), gst n s⟩ := by
        rw [delF, rget_miss l1 l2]; rfl
      rw [hno]
      clear hno
      go_enter Try.func20, Try.ntmps20
      go_wp2_with fail
      refine hbeg.mono ?_
      rintro e w1 ⟨rfl, hR1, hm1⟩
      have hfind := find_any hR1 n l1 (fun g hg => Int.le_of_lt (l2 g hg))
      rw [hdIs_no l2] at hfind
      have hcnt := hR1.count
      rw [List.length_append] at hcnt
      have H1 := Lib.hid hR1
      have HM1 := Lib.hid hm1
      clear hR1 hm1 hbeg hc l1 l2
      go_wp2_with fail
      refine hfind.mono ?_
      rintro e w2 ⟨rfl, hm2⟩
      have HF := Lib.hid (rnone (H1.out.kept hm2 (fun k _ hk => hk)) (HM1.out.trans hm2 (M := (· = r)) (fun _ h => .inl h) (fun _ h => h.elim)) 7)
      clear hfind hm2
      go_wp2
      go_ret
      exact ⟨rfl, HF.out⟩
  · rw [if_neg hc]
    have hc' : (gcode n s == 0) = false := by simpa using hc
    go_enter Try.func20, Try.ntmps20
    go_wp2_with fail
    refine hbeg.mono ?_
    rintro e w1 ⟨rfl, hR1, hm1⟩
    have HF := Lib.hid (rnone hR1 hm1 (gcode n s))
    clear hR1 hm1 hbeg
    go_wp2
    go_ret
    exact ⟨rfl, HF.out⟩
end Go.Proofs.Ytnfecdjcddidgaa
