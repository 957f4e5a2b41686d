/- The law's own function live. -/
import Derived.Test.YtnfecdjcddidgaaLawC
import Derived.Lib.SmallJoins
namespace Go.Proofs.Ytnfecdjcddidgaa
open Go.RowKit Go.Maps Go.Joins

def st1 : DSt := { free := 98, left := -1, dead := false, ops := 1 }
theorem live1 : gated 1 (absd []) (newSt 100) (appF 1 [[97], [98]].flatten (absd [])) = ⟨0, [⟨1, [], [97, 98]⟩], { free := 98, left := -1, dead := false, ops := 1 }⟩ := by rfl
theorem live2 : gated 1 [⟨1, [], [97, 98]⟩] { free := 98, left := -1, dead := false, ops := 1 } (syncF 1 [⟨1, [], [97, 98]⟩]) = ⟨0, [⟨1, [97, 98], []⟩], { free := 98, left := -1, dead := false, ops := 2 }⟩ := by rfl
theorem live3 : gated 1 [⟨1, [97, 98], []⟩] { free := 98, left := -1, dead := false, ops := 2 } (appF 1 [[99, 100]].flatten [⟨1, [97, 98], []⟩]) = ⟨0, [⟨1, [97, 98], [99, 100]⟩], { free := 96, left := -1, dead := false, ops := 3 }⟩ := by rfl
theorem live4 : crashF [⟨1, 1, 0⟩] [⟨1, [97, 98], [99, 100]⟩] { free := 96, left := -1, dead := false, ops := 3 } = ([⟨1, [97, 98, 99], []⟩], { free := 97, left := -1, dead := false, ops := 3 }) := by rfl
theorem live5 : readF 1 [⟨1, [97, 98, 99], []⟩] { free := 97, left := -1, dead := false, ops := 3 } = (0, [97, 98, 99]) := by rfl
theorem live6 : gated 1 [⟨1, [97, 98, 99], []⟩] { free := 97, left := 0, dead := false, ops := 3 } (syncF 1 [⟨1, [97, 98, 99], []⟩]) = ⟨140, [⟨1, [97, 98, 99], []⟩], { free := 97, left := 0, dead := true, ops := 3 }⟩ := by rfl
theorem live7 (L : List PF) (s : DSt) (x : List UInt8) : gated 0 L s (appF 0 x L) = ⟨2, L, s⟩ := by rfl

/-- Did, told by what it did. -/
theorem Did.told {d m : Nat} {fs : List DF} {w w' : World} {k : Step} (h : Did d m fs w w' k) : ∃ fs', Dr w' d m fs' k.s ∧ absd fs' = k.L ∧ Mod (fun b => b ∈ Dr.foot d m fs) w w' ∧ ∀ b ∈ Dr.foot d m fs', b ∈ Dr.foot d m fs ∨ w.heap.size ≤ b := h

theorem sc_bytes {W : World} {b : Nat} {xs : List UInt8} {t : TypeId} {fr : Nat × Nat} {F : Nat → Prop} (h : W.heap[b]? = some (.cells (bcells xs).toArray t fr)) (hF : F b) : SC Rdr.byte F W (some ⟨b, 0, none⟩) xs := by
  intro _
  refine ⟨b, 0, rfl, hF, fun i hi => ⟨[.int .u8 (xs[i].toNat : Int)], rfl, fun j u hu => ?_⟩⟩
  match j, hu with
  | 0, hu =>
    cases hu
    have e : (⟨b, 0 + i * Rdr.byte.sz + 0, none⟩ : Addr) = ⟨b, i, none⟩ := by simp [Rdr.byte]
    rw [e, heap_cell h]
    simp [bcells, hi]
theorem sc_rows {W : World} {g : Nat} {ps : Array Value} {t : TypeId} {fr : Nat × Nat} {bs : List (List UInt8)} {F : Nat → Prop} (h : W.heap[g]? = some (.cells ps t fr)) (hF : F g)
    (hp : ∀ i (hi : i < bs.length), ∃ A c, ps[i]? = some (.slice A bs[i].length c) ∧ bs[i].length ≤ c ∧ bs[i].length ≤ 140737488351232 ∧ SC Rdr.byte F W A bs[i]) : SC Rbytes F W (some ⟨g, 0, none⟩) bs := by
  intro _
  refine ⟨g, 0, rfl, hF, fun i hi => ?_⟩
  obtain ⟨A, c, h1, h2, h3, h4⟩ := hp i hi
  refine ⟨[.slice A bs[i].length c], ⟨A, c, rfl, h2, h3, h4⟩, fun j u hu => ?_⟩
  match j, hu with
  | 0, hu =>
    cases hu
    have e : (⟨g, 0 + i * Rbytes.sz + 0, none⟩ : Addr) = ⟨g, i, none⟩ := by simp [Rbytes, Rdr.slice]
    rw [e, heap_cell h]
    exact h1

set_option maxRecDepth 100000 in
set_option maxHeartbeats 4000000 in
theorem live_any (w : World) : Calls Try.prog 9 #[] w fun e w' => e = .returned (.bool true) ∧ Mod Nil w w' := by
  go_enter Try.func9, Try.ntmps9
  go_wp2_with fail
  refine (new_ok 100 w (by omega) (by omega)).mono ?_
  rintro e w1 ⟨rfl, hD1, hm1⟩
  have HD1 := Lib.hid hD1
  have HM1 := Lib.hid hm1
  have hn1 := fun c => num_any c w1
  have hfoot : ∀ b ∈ Dr.foot (w.heap.size + 1) w.heap.size [], w.heap.size ≤ b := by intro b hb; simp [Dr.foot, dfoot] at hb; omega
  have HFoot := Lib.hid hfoot
  clear hD1 hm1 hfoot
  go_wp2_with fail
  refine (hn1 _).mono ?_
  rintro e w1' ⟨rfl, rfl⟩
  have k1 := run_convert_bytes_const_at (P := Try.prog) w1 39 5 #[.int .u8 97] 1 1 w1.heap.size rfl Try.underlying39 Try.underlying5
  have k2 := run_convert_bytes_const_at (P := Try.prog) (w1.alloc (.cells #[.int .u8 97] 5 (1, 2))) 39 5 #[.int .u8 98] 1 1 (w1.heap.size + 1) (by simp) Try.underlying39 Try.underlying5
  clear hn1
  go_wp2_with fail
  have hW : Mod Nil w1 (((w1.alloc (.cells #[.int .u8 97] 5 (1, 2))).alloc (.cells #[.int .u8 98] 5 (1, 2))).alloc (.cells #[.slice (some ⟨w1.heap.size, 0, none⟩) 1 1, .slice (some ⟨w1.heap.size + 1, 0, none⟩) 1 1] 39 (0, 0))) := (((Mod.refl Nil w1).alloc _).alloc _).alloc _
  have b1 : (((w1.alloc (.cells #[.int .u8 97] 5 (1, 2))).alloc (.cells #[.int .u8 98] 5 (1, 2))).alloc (.cells #[.slice (some ⟨w1.heap.size, 0, none⟩) 1 1, .slice (some ⟨w1.heap.size + 1, 0, none⟩) 1 1] 39 (0, 0))).heap[w1.heap.size]? = some (.cells (bcells [97]).toArray 5 (1, 2)) := heap_alloc (heap_alloc (heap_new w1 _) _) _
  have b2 : (((w1.alloc (.cells #[.int .u8 97] 5 (1, 2))).alloc (.cells #[.int .u8 98] 5 (1, 2))).alloc (.cells #[.slice (some ⟨w1.heap.size, 0, none⟩) 1 1, .slice (some ⟨w1.heap.size + 1, 0, none⟩) 1 1] 39 (0, 0))).heap[w1.heap.size + 1]? = some (.cells (bcells [98]).toArray 5 (1, 2)) := by
    have := heap_new (w1.alloc (.cells #[.int .u8 97] 5 (1, 2))) (.cells #[.int .u8 98] 5 (1, 2))
    rw [World.size_alloc] at this
    exact heap_alloc this _
  have b3 : (((w1.alloc (.cells #[.int .u8 97] 5 (1, 2))).alloc (.cells #[.int .u8 98] 5 (1, 2))).alloc (.cells #[.slice (some ⟨w1.heap.size, 0, none⟩) 1 1, .slice (some ⟨w1.heap.size + 1, 0, none⟩) 1 1] 39 (0, 0))).heap[w1.heap.size + 1 + 1]? = some (.cells #[.slice (some ⟨w1.heap.size, 0, none⟩) 1 1, .slice (some ⟨w1.heap.size + 1, 0, none⟩) 1 1] 39 (0, 0)) := by
    have := heap_new ((w1.alloc (.cells #[.int .u8 97] 5 (1, 2))).alloc (.cells #[.int .u8 98] 5 (1, 2))) (.cells #[.slice (some ⟨w1.heap.size, 0, none⟩) 1 1, .slice (some ⟨w1.heap.size + 1, 0, none⟩) 1 1] 39 (0, 0))
    rwa [World.size_alloc, World.size_alloc] at this
  have hSC : SC Rbytes (fun b => w1.heap.size ≤ b ∧ b < w1.heap.size + 3) (((w1.alloc (.cells #[.int .u8 97] 5 (1, 2))).alloc (.cells #[.int .u8 98] 5 (1, 2))).alloc (.cells #[.slice (some ⟨w1.heap.size, 0, none⟩) 1 1, .slice (some ⟨w1.heap.size + 1, 0, none⟩) 1 1] 39 (0, 0))) (some ⟨w1.heap.size + 1 + 1, 0, none⟩) [[97], [98]] := by
    refine sc_rows b3 (by omega) fun i hi => ?_
    match i, hi with
    | 0, _ => exact ⟨_, 1, rfl, by simp, by simp, sc_bytes b1 (by omega)⟩
    | 1, _ => exact ⟨_, 1, rfl, by simp, by simp, sc_bytes b2 (by omega)⟩
  have hdlt : w.heap.size + 1 < w1.heap.size := heap_lt HD1.out.st
  refine (app_any (HD1.out.kept hW fun k _ hk => hk) 1 ⟨by decide, by decide⟩ (F := fun b => w1.heap.size ≤ b ∧ b < w1.heap.size + 3) (fun b hb => by simp only [World.size_alloc]; omega) (fun hb => by omega) hSC (by decide) (by decide)).mono ?_
  rintro e w2 ⟨rfl, hdid⟩
  rw [live1] at hdid ⊢
  obtain ⟨fs2, hD2, ha2, hm2, hf2⟩ := hdid
  have hM2 : Mod Nil w w2 := (HM1.out.then hW).trans hm2 (fun _ h => h.elim) (fun k hk => .inr (HFoot.out k hk))
  have hF2 : ∀ b ∈ Dr.foot (w.heap.size + 1) w.heap.size fs2, w.heap.size ≤ b := fun b hb => (hf2 b hb).elim (HFoot.out b) fun h => Nat.le_trans (HM1.out.then hW).size h
  have HD2 := Lib.hid hD2
  have HA2 := Lib.hid ha2
  have HM2 := Lib.hid hM2
  have HF2 := Lib.hid hF2
  have hn2 := fun c => num_any c w2
  clear hD2 ha2 hm2 hf2 hM2 hF2 hSC b1 b2 b3 hW k1 k2
  go_wp2_with fail
  refine (hn2 _).mono ?_
  rintro e w2' ⟨rfl, rfl⟩
  clear hn2
  go_wp2_with fail
  have hsy := sync_any HD2.out 1 ⟨by decide, by decide⟩
  refine hsy.mono ?_
  rintro e w3 ⟨rfl, hdid⟩
  rw [HA2.out, live2] at hdid ⊢
  obtain ⟨fs3, hD3, ha3, hm3, hf3⟩ := hdid
  have hM3 : Mod Nil w w3 := (HM2.out).trans hm3 (fun _ h => h.elim) (fun k hk => .inr (HF2.out k hk))
  have hF3 : ∀ b ∈ Dr.foot (w.heap.size + 1) w.heap.size fs3, w.heap.size ≤ b := fun b hb => (hf3 b hb).elim (HF2.out b) fun h => Nat.le_trans (HM2.out).size h
  have HD3 := Lib.hid hD3
  have HA3 := Lib.hid ha3
  have HM3 := Lib.hid hM3
  have HF3 := Lib.hid hF3
  have hn3 := fun c => num_any c w3
  clear hD3 ha3 hm3 hf3 hM3 hF3
  clear hsy
  go_wp2_with fail
  refine (hn3 _).mono ?_
  rintro e w3' ⟨rfl, rfl⟩
  clear hn3
  have k1 := run_convert_bytes_const_at (P := Try.prog) w3 39 5 #[.int .u8 99, .int .u8 100] 2 2 w3.heap.size rfl Try.underlying39 Try.underlying5
  go_wp2_with fail
  have hW : Mod Nil w3 ((w3.alloc (.cells #[.int .u8 99, .int .u8 100] 5 (2, 3))).alloc (.cells #[.slice (some ⟨w3.heap.size, 0, none⟩) 2 2] 39 (0, 0))) := ((Mod.refl Nil w3).alloc _).alloc _
  have b1 : ((w3.alloc (.cells #[.int .u8 99, .int .u8 100] 5 (2, 3))).alloc (.cells #[.slice (some ⟨w3.heap.size, 0, none⟩) 2 2] 39 (0, 0))).heap[w3.heap.size]? = some (.cells (bcells [99, 100]).toArray 5 (2, 3)) := heap_alloc (heap_new w3 _) _
  have b3 : ((w3.alloc (.cells #[.int .u8 99, .int .u8 100] 5 (2, 3))).alloc (.cells #[.slice (some ⟨w3.heap.size, 0, none⟩) 2 2] 39 (0, 0))).heap[w3.heap.size + 1]? = some (.cells #[.slice (some ⟨w3.heap.size, 0, none⟩) 2 2] 39 (0, 0)) := by
    have := heap_new (w3.alloc (.cells #[.int .u8 99, .int .u8 100] 5 (2, 3))) (.cells #[.slice (some ⟨w3.heap.size, 0, none⟩) 2 2] 39 (0, 0))
    rwa [World.size_alloc] at this
  have hSC : SC Rbytes (fun b => w3.heap.size ≤ b ∧ b < w3.heap.size + 2) ((w3.alloc (.cells #[.int .u8 99, .int .u8 100] 5 (2, 3))).alloc (.cells #[.slice (some ⟨w3.heap.size, 0, none⟩) 2 2] 39 (0, 0))) (some ⟨w3.heap.size + 1, 0, none⟩) [[99, 100]] := by
    refine sc_rows b3 (by omega) fun i hi => ?_
    match i, hi with
    | 0, _ => exact ⟨_, 2, rfl, by simp, by simp, sc_bytes b1 (by omega)⟩
  have hdlt : w.heap.size + 1 < w3.heap.size := heap_lt HD3.out.st
  have happ := app_any (HD3.out.kept hW fun k _ hk => hk) 1 ⟨by decide, by decide⟩ (F := fun b => w3.heap.size ≤ b ∧ b < w3.heap.size + 2) (c := 1) (fun b hb => by simp only [World.size_alloc]; omega) (fun hb => by omega) hSC (by decide) (by decide)
  refine happ.mono ?_
  rintro e w4 ⟨rfl, hdid⟩
  rw [HA3.out, live3] at hdid ⊢
  obtain ⟨fs4, hD4, ha4, hm4, hf4⟩ := hdid
  have hM4 : Mod Nil w w4 := (HM3.out.then hW).trans hm4 (fun _ h => h.elim) (fun k hk => .inr (HF3.out k hk))
  have hF4 : ∀ b ∈ Dr.foot (w.heap.size + 1) w.heap.size fs4, w.heap.size ≤ b := fun b hb => (hf4 b hb).elim (HF3.out b) fun h => Nat.le_trans (HM3.out.then hW).size h
  have HD4 := Lib.hid hD4
  have HA4 := Lib.hid ha4
  have HM4 := Lib.hid hM4
  have HF4 := Lib.hid hF4
  have hn4 := fun c => num_any c w4
  clear hD4 ha4 hm4 hf4 hM4 hF4
  clear happ hSC b1 b3 hW k1
  go_wp2_with fail
  refine (hn4 _).mono ?_
  rintro e w4' ⟨rfl, rfl⟩
  clear hn4
  go_wp2_with fail
  have hT : ((w4.alloc (.cells #[.int .i64 1, .int .i64 1, .int .u8 0] 67 (0, 0)))).heap[w4.heap.size]? = some (.cells #[.int .i64 1, .int .i64 1, .int .u8 0] 67 (0, 0)) := heap_new w4 _
  have hW : Mod Nil w4 (w4.alloc (.cells #[.int .i64 1, .int .i64 1, .int .u8 0] 67 (0, 0))) := (Mod.refl Nil w4).alloc _
  have hSC : SC Rtail (fun b => b = w4.heap.size) (w4.alloc (.cells #[.int .i64 1, .int .i64 1, .int .u8 0] 67 (0, 0))) (some ⟨w4.heap.size, 0, none⟩) [⟨1, 1, 0⟩] := by
    intro _
    refine ⟨w4.heap.size, 0, rfl, rfl, fun i hi => ?_⟩
    match i, hi with
    | 0, _ =>
      refine ⟨_, ⟨rfl, rfl, rfl⟩, fun j u hu => ?_⟩
      match j, hu with
      | 0, hu => cases hu; exact heap_cell hT 0
      | 1, hu => cases hu; exact heap_cell hT 1
      | 2, hu => cases hu; exact heap_cell hT 2
  have hcr := crash_any (HD4.out.kept hW fun k _ hk => hk) (c := 1) (F := fun b => b = w4.heap.size) (fun b hb => by rw [World.size_alloc]; omega) (fun b hb hf => by have := HD4.out.lt hf; omega) hSC (by decide)
  refine hcr.mono ?_
  rintro e w5 ⟨rfl, fs5, hD5, ha5, hm5, hf5⟩
  rw [HA4.out, live4] at hD5 ha5
  have hM5 : Mod Nil w w5 := (HM4.out.then hW).trans hm5 (fun _ h => h.elim) (fun k hk => .inr (HF4.out k hk))
  have HD5 := Lib.hid hD5
  have HA5 := Lib.hid ha5
  have HM5 := Lib.hid hM5
  have HF5 := Lib.hid (fun b hb => (hf5 b hb).elim (HF4.out b) fun h => Nat.le_trans (HM4.out.then hW).size h : ∀ b ∈ Dr.foot (w.heap.size + 1) w.heap.size fs5, w.heap.size ≤ b)
  clear hD5 ha5 hm5 hf5 hM5 hcr hSC hW hT
  go_wp2_with fail
  have hrd := read_any HD5.out 1
  rw [HA5.out, live5] at hrd
  refine hrd.mono ?_
  rintro e w6 ⟨v6, rfl, ho6, hm6⟩
  have HD6 := Lib.hid (HD5.out.kept hm6 fun k _ hk => hk)
  have HM6 := Lib.hid (HM5.out.then hm6)
  have HO6 := Lib.hid ho6
  obtain ⟨A6, x6, rfl, _⟩ := own_form ho6
  clear hrd hm6 ho6
  go_wp2_with fail
  have har := arm_any HD6.out 0
  refine har.mono ?_
  rintro e w7 ⟨rfl, hD7, hm7⟩
  have hM7 : Mod Nil w w7 := HM6.out.trans hm7 (fun _ h => h.elim) (fun k hk => .inr (HF5.out k (hk ▸ foot_d)))
  have hd6 : w.heap.size + 1 < w5.heap.size := heap_lt HD5.out.st
  have ho7 := own_kept HO6.out hm7 (fun q hq e => by have := (HO6.out.lt q hq).1; omega)
  obtain ⟨A', x', ea, _, hSa⟩ := OB.reads (w := w7) (e := 5) (own_base (B' := 0) ho7 (fun _ _ => Nat.zero_le _))
  cases ea
  have hcv : (convert 39 9 (.slice A6 3 x6)).run Try.prog w7 = .ok (.string { data := #[97, 98, 99] }) w7 := conv_any (c := x6) hSa
  have HD7 := Lib.hid hD7
  have HM7 := Lib.hid hM7
  have hn7 := fun c => num_any c w7
  clear har hD7 hm7 hM7 ho7 hSa
  go_wp2_with fail
  refine (hn7 _).mono ?_
  rintro e w7' ⟨rfl, rfl⟩
  clear hn7
  go_wp2_with fail
  have hsy := sync_any HD7.out 1 ⟨by decide, by decide⟩
  refine hsy.mono ?_
  rintro e w8 ⟨rfl, hdid⟩
  rw [HA5.out, live6] at hdid ⊢
  obtain ⟨fs8, hD8, ha8, hm8, hf8⟩ := hdid
  have hM8 : Mod Nil w w8 := (HM7.out).trans hm8 (fun _ h => h.elim) (fun k hk => .inr (HF5.out k hk))
  have hF8 : ∀ b ∈ Dr.foot (w.heap.size + 1) w.heap.size fs8, w.heap.size ≤ b := fun b hb => (hf8 b hb).elim (HF5.out b) fun h => Nat.le_trans (HM7.out).size h
  have HD8 := Lib.hid hD8
  have HA8 := Lib.hid ha8
  have HM8 := Lib.hid hM8
  have HF8 := Lib.hid hF8
  have hn8 := fun c => num_any c w8
  clear hD8 ha8 hm8 hf8 hM8 hF8
  clear hsy hcv
  go_wp2_with fail
  refine (hn8 _).mono ?_
  rintro e w8' ⟨rfl, rfl⟩
  clear hn8
  go_wp2_with fail
  have fr3 := dead_any HD8.out
  have fr4 := ops_any HD8.out
  have fr1 := free_any HD8.out
  refine fr3.mono ?_
  rintro e w9 ⟨rfl, rfl⟩
  go_wp2_with fail
  refine fr4.mono ?_
  rintro e w9 ⟨rfl, rfl⟩
  go_wp2_with fail
  refine fr1.mono ?_
  rintro e w9 ⟨rfl, rfl⟩
  clear fr1 fr3 fr4
  go_wp2_with fail
  have happ := app_any HD8.out 0 ⟨by decide, by decide⟩ (F := fun _ => False) (A := none) (c := 0) (bs := []) (fun b hb => hb.elim) (fun hb => hb) (fun h => absurd h (by simp)) (by decide) (by decide)
  refine happ.mono ?_
  rintro e w9 ⟨rfl, hdid⟩
  rw [live7] at hdid ⊢
  obtain ⟨fs9, _, _, hm9, _⟩ := hdid
  have HM9 := Lib.hid (HM8.out.trans hm9 (M := Nil) (fun _ h => h.elim) (fun k hk => .inr (HF8.out k hk)))
  have hn9 := fun c => num_any c w9
  clear hm9 happ
  go_wp2_with fail
  refine (hn9 _).mono ?_
  rintro e w9' ⟨rfl, rfl⟩
  clear hn9
  go_wp2
  go_ret
  exact ⟨rfl, HM9.out⟩
end Go.Proofs.Ytnfecdjcddidgaa
