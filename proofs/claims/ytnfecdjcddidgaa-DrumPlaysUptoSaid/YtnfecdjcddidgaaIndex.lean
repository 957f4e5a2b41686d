/- slices.IndexFunc over tails, with Crash's closure. -/
import Derived.Test.YtnfecdjcddidgaaFiles
namespace Go.Proofs.Ytnfecdjcddidgaa
open Go.RowKit Go.Maps

structure Tail where
  file : Int
  keep : Int
  turn : UInt8

def Rtail : Rdr Tail where
  sz := 3
  K := fun _ _ x cs => cs = [.int .i64 x.file, .int .i64 x.keep, .int .u8 x.turn.toNat] ∧ (Lit.int .i64 x.file).wf = true ∧ (Lit.int .i64 x.keep).wf = true
  len := by rintro F w x cs ⟨rfl, _⟩; rfl
  frame := by rintro F w x cs w' h _; exact h
  mono := by rintro F F' w x cs h _; exact h

def Tail.val (t : Tail) : Value := Value.agg #[.int .i64 t.file, .int .i64 t.keep, .int .u8 t.turn.toNat]

theorem hit_any {w : World} {b : Nat} {n : Int} (t : Tail) (c0 : w.cell? ⟨b, 0, none⟩ = some (.int .i64 n)) :
    Calls Try.prog 49 #[t.val, .pointer (some ⟨b, 0, none⟩)] w fun e w' => e = .returned (.bool (decide (t.file = n))) ∧ Mod Nil w w' := by
  have hb := World.block_lt_of_cell? w _ c0
  unfold Tail.val
  go_enter Try.func49, Try.ntmps49
  go_wp2
  go_ret
  exact ⟨rfl, (Mod.refl Nil w).alloc _⟩

theorem ent49 : Go.Proofs.Enters Try.prog 49 := Go.Proofs.enters_of Try.func49 (by kernel_rfl) rfl

def tfind (n : Int) (ts : List Tail) : Int :=
  match ts.findIdx? (fun t => t.file = n) with
  | none => -1
  | some i => i

theorem tfind_none {n : Int} {ts : List Tail} (h : ∀ i (hi : i < ts.length), ts[i].file ≠ n) : tfind n ts = -1 := by
  have : ts.findIdx? (fun t => decide (t.file = n)) = none := by
    rw [List.findIdx?_eq_none_iff]
    intro t ht
    obtain ⟨i, hi, rfl⟩ := List.getElem_of_mem ht
    simpa using h i hi
  rw [tfind, this]
theorem tfind_some {n : Int} {ts : List Tail} {k : Nat} (hk : k < ts.length) (h : ∀ i (_ : i < k) (hi : i < ts.length), ts[i].file ≠ n) (he : ts[k].file = n) : tfind n ts = k := by
  have : ts.findIdx? (fun t => decide (t.file = n)) = some k := by
    rw [List.findIdx?_eq_some_iff_getElem]
    exact ⟨hk, by simpa using he, fun j hj => by simpa using h j hj (by omega)⟩
  rw [tfind, this]

set_option maxHeartbeats 1000000 in
theorem index_any {w : World} {b c : Nat} {n : Int} {F : Nat → Prop} {A : Option Addr} {ts : List Tail} (hb : w.cell? ⟨b, 0, none⟩ = some (.int .i64 n)) (hF : ∀ b, F b → b < w.heap.size) (hS : SC Rtail F w A ts) (hl : ts.length ≤ 140737488351232) :
    Calls Try.prog 48 #[.slice A ts.length c, .func (.func 49) #[] #[.pointer (some ⟨b, 0, none⟩)]] w fun e w' => e = .returned (.int .i64 (tfind n ts)) ∧ Mod Nil w w' := by
  have HS := Lib.hid hS
  have e49 := ent49
  unfold Go.Proofs.Enters at e49
  have hbl := World.block_lt_of_cell? w _ hb
  clear hS
  go_enter Try.func48, Try.ntmps48
  go_wp2_with fail
  go_loopw [8] (fun i wr => ∃ k : Nat, k ≤ ts.length ∧ i = .int .i64 k ∧ (∀ j (_ : j < k) (hj : j < ts.length), ts[j].file ≠ n) ∧ Mod Nil w wr) (fun i _ => ts.length - (intOf i).toNat)
  case atStart => exact ⟨0, Nat.zero_le _, rfl, fun j hj => absurd hj (Nat.not_lt_zero _), Mod.refl _ _⟩
  case round =>
    obtain ⟨k, hk, rfl, hno, hm⟩ := hrel
    have HM := Lib.hid hm
    have HN := Lib.hid hno
    by_cases hlt : k < ts.length
    · obtain ⟨b', o, cs, rfl, hFb, ⟨rfl, hw1, hw2⟩, hc⟩ := HS.out.at_ hlt
      have k0 : wr.cell? ⟨b', o + k * 3, none⟩ = some (.int .i64 ts[k].file) := by
        rw [World.cell?_of_block (w := w) (hm.block _ (hF _ hFb) (fun h => h))]; exact hc 0 _ rfl
      have k1 : wr.cell? ⟨b', o + k * 3 + 1, none⟩ = some (.int .i64 ts[k].keep) := by
        rw [World.cell?_of_block (w := w) (hm.block _ (hF _ hFb) (fun h => h))]; exact hc 1 _ rfl
      have k2 : wr.cell? ⟨b', o + k * 3 + 2, none⟩ = some (.int .u8 ts[k].turn.toNat) := by
        rw [World.cell?_of_block (w := w) (hm.block _ (hF _ hFb) (fun h => h))]; exact hc 2 _ rfl
      have hb' : wr.cell? ⟨b, 0, none⟩ = some (.int .i64 n) := by
        rw [World.cell?_of_block (w := w) (hm.block _ hbl (fun h => h))]; exact hb
      clear hc hm hno
      go_wp2_with fail
      refine (hit_any ts[k] hb').mono ?_
      rintro e w1 ⟨rfl, hm1⟩
      have HM1 := Lib.hid (HM.out.then hm1)
      clear hm1
      by_cases heq : ts[k].file = n
      · have ht := tfind_some hlt HN.out heq
        rw [decide_eq_true heq]
        go_wp2
        go_ret
        exact ⟨by rw [ht]; rfl, HM1.out⟩
      · rw [decide_eq_false heq]
        go_wp2
        go_roundw
        case rel =>
          refine ⟨k + 1, by omega, by go_num, fun j hj hj' => ?_, HM1.out⟩
          rcases Nat.lt_succ_iff_lt_or_eq.1 hj with h | rfl
          · exact HN.out j h hj'
          · exact heq
        case measure => simp [intOf]; omega
    · obtain rfl : k = ts.length := by omega
      have ht := tfind_none fun i hi => hno i hi hi
      clear hno hm
      go_wp2
      go_ret
      exact ⟨by rw [ht]; rfl, HM.out⟩
end Go.Proofs.Ytnfecdjcddidgaa
