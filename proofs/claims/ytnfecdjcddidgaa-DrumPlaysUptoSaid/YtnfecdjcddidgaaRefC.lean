/- The document's drum: find, Read, Files. -/
import Derived.Test.YtnfecdjcddidgaaRefB
namespace Go.Proofs.Ytnfecdjcddidgaa
open Go.RowKit Go.Maps

theorem get_mid {α : Type} {a b : List α} {x : α} (h : a.length < (a ++ x :: b).length) : (a ++ x :: b)[a.length]'h = x := by simp
theorem get_fst {α : Type} {a b : List α} {k : Nat} (hk : k < a.length) (h : k < (a ++ b).length) : (a ++ b)[k]'h = a[k] := by rw [List.getElem_append_left hk]

def hdIs (n : Int) : List RF → Bool
  | [] => false
  | f :: _ => decide (f.n = n)

set_option maxRecDepth 100000 in
set_option maxHeartbeats 1000000 in
theorem find_any {w : World} {r : Nat} {lv : Value} {fs1 fs2 : List RF} {s : DSt} (h : Rf w r lv (fs1 ++ fs2) s) (n : Int) (h1 : ∀ g ∈ fs1, g.n < n) (h2 : ∀ g ∈ fs2, n ≤ g.n) :
    Calls Try.prog 45 #[.pointer (some ⟨r, 0, none⟩), .int .i64 n] w fun e w' => e = .returned (.tuple #[.int .i64 fs1.length, .bool (hdIs n fs2)]) ∧ Mod Nil w w' := by
  have c0 : w.cell? ⟨r, 0, none⟩ = some lv := heap_cell h.st 0
  have hcnt := h.count
  obtain ⟨A, c, hlv, hc, _⟩ := own_form h.ls
  rw [hlv] at c0
  have H := Lib.hid h
  have HL := Lib.hid hlv
  have H1 := Lib.hid h1
  have H2 := Lib.hid h2
  have hlen : (fs1 ++ fs2).length = fs1.length + fs2.length := List.length_append
  rw [hlen] at c0 hcnt hc
  clear h hlv h1 h2
  go_enter Try.func45, Try.ntmps45
  go_wp2
  go_loop [6] (fun i => ∃ k : Nat, k ≤ fs1.length ∧ i = .int .i64 k) (fun i => fs1.length - (intOf i).toNat)
  case atStart => exact ⟨0, Nat.zero_le _, rfl⟩
  case round =>
    obtain ⟨k, hk, rfl⟩ := hrel
    by_cases hlt : k < fs1.length
    · have hlt' : k < (fs1 ++ fs2).length := by omega
      obtain ⟨lb, c', hlv', hc', k0, k1, k2⟩ := H.out.at_ hlt'
      have hA : A = some ⟨lb, 0, none⟩ := by rw [HL.out] at hlv'; cases hlv'; rfl
      subst hA
      rw [get_fst hlt] at k0
      have hless := H1.out fs1[k] (by simp)
      clear hlv' k1 k2
      go_wp2
      go_round
      case rel => exact ⟨k + 1, by omega, by go_num⟩
      case measure => simp [intOf]; omega
    · obtain rfl : k = fs1.length := by omega
      cases fs2 with
      | nil =>
        simp only [List.length_nil, Nat.add_zero] at c0 hcnt hc
        go_wp2
        go_quiet (fail)
        go_wp2
        go_ret2
        exact ⟨rfl, (Mod.refl Nil w).drewN _⟩
      | cons f fr =>
        have hlt' : fs1.length < (fs1 ++ f :: fr).length := by simp
        obtain ⟨lb, c', hlv', hc', k0, k1, k2⟩ := H.out.at_ hlt'
        have hA : A = some ⟨lb, 0, none⟩ := by rw [HL.out] at hlv'; cases hlv'; rfl
        subst hA
        rw [get_mid] at k0
        have hge := H2.out f (by simp)
        simp only [List.length_cons] at c0 hcnt hc
        clear hlv' k1 k2 hlt' hlt
        by_cases he : f.n = n
        · rw [he] at k0
          have hh : hdIs n (f :: fr) = true := by simp [hdIs, he]
          have HH := Lib.hid hh
          clear hge he hh
          go_wp2
          go_quiet (fail)
          go_wp2
          go_ret2
          exact ⟨by rw [HH.out]; try rfl, (Mod.refl Nil w).drewN _⟩
        · have hh : hdIs n (f :: fr) = false := by simp [hdIs, he]
          have he' : (f.n == n) = false := by simpa using he
          have HH := Lib.hid hh
          clear he hh
          go_wp2
          go_quiet (fail)
          go_wp2
          go_ret2
          exact ⟨by rw [HH.out]; try rfl, (Mod.refl Nil w).drewN _⟩

/-- A file's slice, as read. -/
theorem Rf.bytes {w : World} {r : Nat} {lv : Value} {fs : List RF} {s : DSt} (h : Rf w r lv fs s) {f : RF} (hf : f ∈ fs) : ∃ A c, f.bv = .slice A (f.safe ++ f.rest).length c ∧ (f.safe ++ f.rest).length ≤ c ∧ SC Rdr.byte (fun b => f.bv.ownBlock = some b) w A (f.safe ++ f.rest) := (h.fl f hf).reads

theorem rsplit {fs : List RF} (n : Int) (h : fs.Pairwise fun f g => f.n < g.n) :
    (∃ fs1 f fs2, fs = fs1 ++ f :: fs2 ∧ f.n = n ∧ (∀ g ∈ fs1, g.n < n) ∧ ∀ g ∈ fs2, n < g.n) ∨ (∃ fs1 fs2, fs = fs1 ++ fs2 ∧ (∀ g ∈ fs1, g.n < n) ∧ ∀ g ∈ fs2, n < g.n) := by
  induction fs with
  | nil => exact .inr ⟨[], [], rfl, by simp, by simp⟩
  | cons f r ih =>
    rw [List.pairwise_cons] at h
    rcases Int.lt_trichotomy f.n n with h1 | h1 | h1
    · rcases ih h.2 with ⟨a, g, b, rfl, hg, ha, hb⟩ | ⟨a, b, rfl, ha, hb⟩
      · exact .inl ⟨f :: a, g, b, rfl, hg, fun x hx => (List.mem_cons.1 hx).elim (fun e => e ▸ h1) (ha x), hb⟩
      · exact .inr ⟨f :: a, b, rfl, fun x hx => (List.mem_cons.1 hx).elim (fun e => e ▸ h1) (ha x), hb⟩
    · exact .inl ⟨[], f, r, rfl, h1, by simp, fun g hg => h1 ▸ h.1 g hg⟩
    · exact .inr ⟨[], f :: r, rfl, by simp, fun g hg => (List.mem_cons.1 hg).elim (fun e => e ▸ h1) (fun hg => Int.lt_trans h1 (h.1 g hg))⟩
theorem hdIs_no {n : Int} {fs : List RF} (h : ∀ g ∈ fs, n < g.n) : hdIs n fs = false := by
  cases fs with
  | nil => rfl
  | cons f r => have := h f (by simp); simp [hdIs]; omega

theorem rabs_app (a b : List RF) : rabs (a ++ b) = rabs a ++ rabs b := List.map_append
theorem rabs_cons (f : RF) (b : List RF) : rabs (f :: b) = f.abs :: rabs b := rfl
theorem rabs_lt {fs : List RF} {n : Int} (h : ∀ g ∈ fs, g.n < n) : ∀ g ∈ rabs fs, g.n < n := by
  intro g hg; obtain ⟨f, hf, rfl⟩ := List.mem_map.1 hg; exact h f hf
theorem rabs_gt {fs : List RF} {n : Int} (h : ∀ g ∈ fs, n < g.n) : ∀ g ∈ rabs fs, n < g.n := by
  intro g hg; obtain ⟨f, hf, rfl⟩ := List.mem_map.1 hg; exact h f hf
theorem rget_hit {fs1 fs2 : List RF} {f : RF} (h1 : ∀ g ∈ fs1, g.n < f.n) : pget f.n (rabs (fs1 ++ f :: fs2)) = some f.abs := by rw [rabs_app, rabs_cons]; exact pget_hit (f := f.abs) (rabs_lt h1)
theorem rget_miss {fs1 fs2 : List RF} {n : Int} (h1 : ∀ g ∈ fs1, g.n < n) (h2 : ∀ g ∈ fs2, n < g.n) : pget n (rabs (fs1 ++ fs2)) = none := by
  refine pget_miss fun g hg => ?_
  rw [rabs_app, List.mem_append] at hg
  rcases hg with hg | hg
  · have := rabs_lt h1 g hg; omega
  · have := rabs_gt h2 g hg; omega

/-- What a Read that made no memory answered. -/
def RGot (r : Nat) (lv : Value) (fs : List RF) (w : World) (x : Int × List UInt8) (e : Ending) (w' : World) : Prop :=
  ∃ v A c, e = .returned (.tuple #[v, .int .i64 x.1]) ∧ v = .slice A x.2.length c ∧ x.2.length ≤ c ∧ SC Rdr.byte (fun b => b ∈ Rf.foot r lv fs) w' A x.2 ∧ Mod Nil w w'

set_option maxRecDepth 100000 in
set_option maxHeartbeats 1000000 in
theorem rread_any {w : World} {r : Nat} {lv : Value} {fs : List RF} {s : DSt} (h : Rf w r lv fs s) (n : Int) :
    Calls Try.prog 52 #[.pointer (some ⟨r, 0, none⟩), .int .i64 n] w (RGot r lv fs w (readF n (rabs fs) s)) := by
  unfold readF
  by_cases h1 : n < 1 ∨ 1000 < n
  · rw [if_pos h1]
    clear h
    by_cases h0 : n < 1
    · clear h1
      go_enter Try.func52, Try.ntmps52
      go_wp2
      go_ret2
      exact ⟨_, none, 0, rfl, rfl, Nat.le_refl _, fun h => absurd h (by simp), Mod.refl _ _⟩
    · have h2 : 1000 < n := by omega
      clear h1
      go_enter Try.func52, Try.ntmps52
      go_wp2
      go_ret2
      exact ⟨_, none, 0, rfl, rfl, Nat.le_refl _, fun h => absurd h (by simp), Mod.refl _ _⟩
  · rw [if_neg h1]
    have n1 : ¬ n < 1 := by omega
    have n2 : ¬ 1000 < n := by omega
    have c3 : w.cell? ⟨r, 3, none⟩ = some (.bool s.dead) := heap_cell h.st 3
    clear h1
    by_cases h2 : s.dead = true
    · rw [if_pos h2]
      rw [h2] at c3
      clear h h2
      go_enter Try.func52, Try.ntmps52
      go_wp2
      go_ret2
      exact ⟨_, none, 0, rfl, rfl, Nat.le_refl _, fun h => absurd h (by simp), Mod.refl _ _⟩
    · rw [if_neg h2]
      have hd : s.dead = false := by simpa using h2
      rw [hd] at c3
      clear h2 hd
      rcases rsplit n h.sorted with ⟨fs1, f, fs2, rfl, rfl, l1, l2⟩ | ⟨fs1, fs2, rfl, l1, l2⟩
      · rw [rget_hit l1]
        have hfind := find_any h f.n l1 (fun g hg => (List.mem_cons.1 hg).elim (fun e => e ▸ Int.le_refl _) fun hg => Int.le_of_lt (l2 g hg))
        have hh : hdIs f.n (f :: fs2) = true := by simp [hdIs]
        rw [hh] at hfind
        have hcnt := h.count
        obtain ⟨lb, c, hlv, hc, k0, k1, k2⟩ := h.at_ (k := fs1.length) (by simp)
        rw [get_mid] at k1
        obtain ⟨A1, x1, hbv, hx1, hSC⟩ := h.bytes (f := f) (by simp)
        have c0 : w.cell? ⟨r, 0, none⟩ = some lv := heap_cell h.st 0
        rw [hlv] at c0
        rw [hbv] at k1
        have q0 : ∀ w1, Mod Nil w w1 → w1.cell? ⟨r, 0, none⟩ = w.cell? ⟨r, 0, none⟩ := fun w1 hm => World.cell?_of_block (hm.block _ (heap_lt h.st) (fun h => h))
        have q1 : ∀ w1, Mod Nil w w1 → w1.cell? ⟨lb, fs1.length * 3 + 1, none⟩ = w.cell? ⟨lb, fs1.length * 3 + 1, none⟩ := fun w1 hm => World.cell?_of_block (hm.block _ (World.block_lt_of_cell? w _ k1) (fun h => h))
        have HS := Lib.hid (hSC.mono (F' := fun b => b ∈ Rf.foot r lv (fs1 ++ f :: fs2)) (by decide) fun b hb _ => Rf.foot_spec.2 (.inr (.inr ⟨f, by simp, hb⟩)))
        have HQ0 := Lib.hid q0
        have HQ1 := Lib.hid q1
        have hlen : (fs1 ++ f :: fs2).length = fs1.length + (fs2.length + 1) := by simp
        rw [hlen] at c0 hcnt hc
        clear h l1 l2 hbv hlv k0 k2 hSC q0 q1 hh
        go_enter Try.func52, Try.ntmps52
        go_wp2_with fail
        refine hfind.mono ?_
        rintro e w1 ⟨rfl, hm⟩
        have c0' := (HQ0.out w1 hm).trans c0
        have k1' := (HQ1.out w1 hm).trans k1
        have HM := Lib.hid hm
        clear hm hfind c0 k1 c3
        go_wp2
        go_ret2
        exact ⟨_, A1, x1, rfl, (by show Value.slice A1 (f.safe.length + f.rest.length) x1 = Value.slice A1 (f.safe ++ f.rest).length x1; rw [List.length_append]), hx1, HS.out.kept (by decide) HM.out (fun _ _ _ h => h), HM.out⟩
      · rw [rget_miss l1 l2]
        have hfind := find_any h n l1 (fun g hg => Int.le_of_lt (l2 g hg))
        rw [hdIs_no l2] at hfind
        have hcnt := h.count
        rw [List.length_append] at hcnt
        clear h l1 l2
        go_enter Try.func52, Try.ntmps52
        go_wp2_with fail
        refine hfind.mono ?_
        rintro e w1 ⟨rfl, hm⟩
        have HM := Lib.hid hm
        clear hm hfind c3
        go_wp2
        go_ret2
        exact ⟨_, none, 0, rfl, rfl, Nat.le_refl _, fun h => absurd h (by simp), HM.out⟩

def icells (l : List Int) : List Value := l.map encZ
theorem info3 : (Try.prog.info? 3).map (fun i => (i.zero, i.size, i.bytes)) = some (some (.int .i64 0), 1, 8) := by kernel_rfl
theorem info83 : (Try.prog.info? 83).map (fun i => (i.zero, i.size, i.bytes)) = some (some (.agg #[.int .i64 0, .slice none 0 0, .int .i64 0]), 3, 40) := by kernel_rfl

set_option maxRecDepth 100000 in
set_option maxHeartbeats 1000000 in
theorem rfiles_any {w : World} {r : Nat} {lv : Value} {fs : List RF} {s : DSt} (h : Rf w r lv fs s) :
    Calls Try.prog 51 #[.pointer (some ⟨r, 0, none⟩)] w fun e w' => ∃ v, e = .returned v ∧ w'.ownsRow w.heap.size 3 1 v fs.length ((fs.map RF.n).map encZ) ∧ Mod Nil w w' := by
  have c0 : w.cell? ⟨r, 0, none⟩ = some lv := heap_cell h.st 0
  have hcnt := h.count
  obtain ⟨A, c, hlv, hc, _⟩ := own_form h.ls
  rw [hlv] at c0
  have hr := heap_lt h.st
  have H := Lib.hid h
  have HL := Lib.hid hlv
  clear h hlv
  go_enter Try.func51, Try.ntmps51
  go_wp2
  go_loopw [3, 4] (fun v i wr => ∃ k : Nat, k ≤ fs.length ∧ i = .int .i64 k ∧ wr.ownsRow w.heap.size 3 1 v k (((fs.map RF.n).take k).map encZ) ∧ Mod Nil w wr) (fun _ i _ => fs.length - (intOf i).toNat)
  case atStart => exact ⟨0, Nat.zero_le _, rfl, World.ownsRow_nil _ _ _ _, Mod.refl _ _⟩
  case round =>
    obtain ⟨k, hk, rfl, hown, hm⟩ := hrel
    have d0 : wr.cell? ⟨r, 0, none⟩ = some (.slice A fs.length c) := by rw [World.cell?_of_block (hm.block _ hr (fun h => h))]; exact c0
    by_cases hlt : k < fs.length
    · obtain ⟨lb, c', hlv', hc', k0, k1, k2⟩ := H.out.at_ hlt
      have hA : A = some ⟨lb, 0, none⟩ := by rw [HL.out] at hlv'; cases hlv'; rfl
      subst hA
      have k0' : wr.cell? ⟨lb, k * 3, none⟩ = some (.int .i64 fs[k].n) := by rw [World.cell?_of_block (hm.block _ (World.block_lt_of_cell? w _ k0) (fun h => h))]; exact k0
      have hsz := hm.size
      have HO := Lib.hid hown
      have HM := Lib.hid hm
      clear hlv' k0 k1 k2 hown hm
      have hown' : (wr.alloc (.cells #[.int .i64 fs[k].n] 3 (0, 0))).ownsRow w.heap.size 3 1 u3 k (((fs.map RF.n).take k).map encZ) := own_kept HO.out ((Mod.refl Nil wr).alloc _) (fun _ _ h => h)
      have hnew : ∀ ad, some (⟨wr.heap.size, 0, none⟩ : Addr) = some ad → ∀ j u, [Value.int .i64 fs[k].n][j]? = some u → (wr.alloc (.cells #[.int .i64 fs[k].n] 3 (0, 0))).cell? (ad.add j) = some u := by
        rintro ad e j u hu
        cases e
        match j, hu with
        | 0, hu => cases hu; exact heap_cell (heap_new wr _) 0
      go_wp2_with (at_builtin; refine wp_append rfl _ _ 58 3 rfl (.int .i64 0) 1 8 Try.underlying58 info3 rfl (by omega) (by omega) w.heap.size u3 k _ rfl hown' (some ⟨wr.heap.size, 0, none⟩) 1 1 [.int .i64 fs[k].n] rfl rfl (fun e => by cases e) hnew (by intro u hu; cases List.mem_singleton.1 hu; rfl) (by omega) (by rw [World.size_alloc]; omega) ?_; intro v' w1 hown1 hg1 hb1 hn1)
      go_roundw
      case rel =>
        refine ⟨k + 1, by omega, by go_num, ?_, (HM.out.alloc _).grown hg1 (fun q hq => .inr (HO.out.lt q hq).1)⟩
        have e : ((fs.map RF.n).take (k + 1)).map encZ = ((fs.map RF.n).take k).map encZ ++ [.int .i64 fs[k].n] := by
          rw [List.take_succ_eq_append_getElem (by simpa using hlt)]; simp [encZ]
        rw [e]; exact hown1
      case measure => simp [intOf]; omega
    · obtain rfl : k = fs.length := by omega
      have ht : (fs.map RF.n).take fs.length = fs.map RF.n := by rw [List.take_of_length_le]; simp
      rw [ht] at hown
      have HO := Lib.hid hown
      have HM := Lib.hid hm
      clear hown hm
      go_wp2
      go_ret
      exact ⟨_, rfl, HO.out, HM.out⟩
end Go.Proofs.Ytnfecdjcddidgaa
