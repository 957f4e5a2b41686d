/- The law's own function small. -/
import Derived.Test.YtnfecdjcddidgaaLawE
namespace Go.Proofs.Ytnfecdjcddidgaa
open Go.RowKit Go.Maps

def rowsN (L : List (List UInt8)) (k : Nat) : Nat := ((L.take k).map List.length).sum
def actN (a : Act14) : Nat := a.L.length + a.T.length + rowsN a.L 61
def actsN (l : List Act14) (k : Nat) : Nat := ((l.take k).map actN).sum
def smallB (l : List Act14) : Bool := decide (l.length ≤ 60) && decide (actsN l 61 ≤ 20000)

theorem rowsN_succ {L : List (List UInt8)} {k : Nat} (h : k < L.length) : rowsN L (k + 1) = rowsN L k + L[k].length := by
  unfold rowsN; rw [List.take_succ_eq_append_getElem h, List.map_append, List.sum_append]; simp only [List.map_cons, List.map_nil, List.sum_cons, List.sum_nil, Nat.add_zero]
theorem actsN_succ {l : List Act14} {k : Nat} (h : k < l.length) : actsN l (k + 1) = actsN l k + actN l[k] := by
  unfold actsN; rw [List.take_succ_eq_append_getElem h, List.map_append, List.sum_append]; simp only [List.map_cons, List.map_nil, List.sum_cons, List.sum_nil, Nat.add_zero]
theorem rowsN_le {L : List (List UInt8)} {B : Nat} (h : ∀ x ∈ L, x.length ≤ B) (k : Nat) : rowsN L k ≤ k * B := by
  induction k with
  | zero => simp [rowsN]
  | succ k ih =>
    rcases Nat.lt_or_ge k L.length with hk | hk
    · rw [rowsN_succ hk]
      have := h _ (List.getElem_mem hk)
      rw [Nat.succ_mul]; omega
    · have : rowsN L (k + 1) = rowsN L k := by simp [rowsN, List.take_of_length_le hk, List.take_of_length_le (Nat.le_succ_of_le hk)]
      rw [this, Nat.succ_mul]; omega
/-- Nothing in it is long. -/
def Short (B : Nat) (a : Act14) : Prop := a.L.length ≤ B ∧ a.T.length ≤ B ∧ ∀ x ∈ a.L, x.length ≤ B
theorem actN_le {B : Nat} {a : Act14} (h : Short B a) : actN a ≤ 63 * B := by
  have := rowsN_le h.2.2 61
  have h1 := h.1; have h2 := h.2.1
  unfold actN; omega
theorem actsN_le {B : Nat} {l : List Act14} (h : ∀ a ∈ l, Short B a) (k : Nat) : actsN l k ≤ k * (63 * B) := by
  induction k with
  | zero => simp [actsN]
  | succ k ih =>
    rcases Nat.lt_or_ge k l.length with hk | hk
    · rw [actsN_succ hk]
      have := actN_le (h _ (List.getElem_mem hk))
      rw [Nat.succ_mul]; omega
    · have : actsN l (k + 1) = actsN l k := by simp [actsN, List.take_of_length_le hk, List.take_of_length_le (Nat.le_succ_of_le hk)]
      rw [this, Nat.succ_mul]; omega
theorem rowsN_all {L : List (List UInt8)} {k : Nat} (h : L.length ≤ k) (j : Nat) (hj : L.length ≤ j) : rowsN L k = rowsN L j := by simp [rowsN, List.take_of_length_le h, List.take_of_length_le hj]
theorem actsN_all {l : List Act14} {k : Nat} (h : l.length ≤ k) (j : Nat) (hj : l.length ≤ j) : actsN l k = actsN l j := by simp [actsN, List.take_of_length_le h, List.take_of_length_le hj]

set_option maxRecDepth 100000 in
set_option maxHeartbeats 4000000 in
theorem small_any {w : World} {F : Nat → Prop} {A : Option Addr} {c : Nat} {l : List Act14} (hF : ∀ b, F b → b < w.heap.size) (hS : SC Ract F w A l) (hl : l.length ≤ 140737488351232) (hsh : ∀ a ∈ l, Short 1048576 a) :
    Calls Try.prog 8 #[.slice A l.length c] w fun e w' => e = .returned (.bool (smallB l)) ∧ Mod Nil w w' := by
  have HS := Lib.hid hS
  have HSH := Lib.hid hsh
  clear hS hsh
  go_enter Try.func8, Try.ntmps8
  go_wp2
  go_loopw [3, 4] (fun n i wr => ∃ k : Nat, k ≤ l.length ∧ k ≤ 61 ∧ i = .int .i64 k ∧ n = .int .i64 (actsN l k) ∧ Mod Nil w wr) (fun _ i _ => l.length - (intOf i).toNat)
  case atStart => exact ⟨0, Nat.zero_le _, by omega, rfl, rfl, Mod.refl _ _⟩
  case round =>
    obtain ⟨k, hk, hk61, rfl, rfl, hm⟩ := hrel
    have HM := Lib.hid hm
    have hb := actsN_le HSH.out k
    by_cases hlt : k < l.length ∧ k ≤ 60
    · obtain ⟨hlt, hk60⟩ := hlt
      obtain ⟨b, o, cs, rfl, hFb, ⟨Al, cl, At, ct, rfl, _, _, _, hL1, hT1, hSL, hST⟩, hcc⟩ := HS.out.at_ hlt
      have q : ∀ x, wr.cell? ⟨b, x, none⟩ = w.cell? ⟨b, x, none⟩ := fun x => World.cell?_of_block (hm.block b (hF b hFb) (fun h => h))
      have c2 : wr.cell? ⟨b, o + k * 5 + 2, none⟩ = some (.slice Al l[k].L.length cl) := (q _).trans (hcc 2 _ rfl)
      have c4 : wr.cell? ⟨b, o + k * 5 + 4, none⟩ = some (.slice At l[k].T.length ct) := (q _).trans (hcc 4 _ rfl)
      obtain ⟨s1, s2, s3⟩ := HSH.out l[k] (List.getElem_mem hlt)
      have hsu := Lib.hid (actsN_succ hlt)
      have c2w : w.cell? ⟨b, o + k * 5 + 2, none⟩ = some (.slice Al l[k].L.length cl) := hcc 2 _ rfl
      have HSL := Lib.hid hSL
      have HS3 := Lib.hid s3
      have hbw := hF b hFb
      clear hcc q hm hSL hST s3
      go_wp2
      refine wp_text mixed (by kernel_rfl) ?_
      go_wp2_with fail
      refine nf_end (by kernel_rfl) ?_
      go_wp2_with fail
      go_loopw [3, 5] (fun n j w2 => ∃ q : Nat, q ≤ l[k].L.length ∧ q ≤ 61 ∧ j = .int .i64 q ∧ n = .int .i64 ((actsN l k : Int) + l[k].L.length + l[k].T.length + (rowsN l[k].L q : Nat)) ∧ Mod Nil w w2) (fun _ j _ => l[k].L.length - (intOf j).toNat)
      case atStart => exact ⟨0, Nat.zero_le _, by omega, rfl, by simp [rowsN], HM.out.drew⟩
      case round =>
        obtain ⟨q, hq, hq61, rfl, rfl, hm2⟩ := hrel
        have c2' : wr.cell? ⟨b, o + k * 5 + 2, none⟩ = some (.slice Al l[k].L.length cl) := by rw [World.cell?_of_block (w := w) (hm2.block b hbw (fun h => h))]; exact c2w
        have HM2 := Lib.hid hm2
        have hrb := rowsN_le HS3.out q
        by_cases hql : q < l[k].L.length
        · by_cases hq60 : q ≤ 60
          · obtain ⟨b', o', A', c', rfl, hFb', r0, _, _, _⟩ := HSL.out.slice_at hql
            have r0' : wr.cell? ⟨b', o' + q, none⟩ = some (.slice A' l[k].L[q].length c') := by rw [World.cell?_of_block (w := w) (hm2.block b' (hF b' hFb') (fun h => h))]; exact r0
            have hxl := HS3.out _ (List.getElem_mem hql)
            have HR := Lib.hid (rowsN_succ hql)
            clear hm2 r0
            go_wp2
            go_roundw
            case rel => exact ⟨q + 1, by omega, by omega, by go_num, by rw [HR.out]; congr 1; omega, HM2.out⟩
            case measure => simp [intOf]; omega
          · obtain rfl : q = 61 := by omega
            have HQ := Lib.hid (show rowsN l[k].L 61 = rowsN l[k].L 61 from rfl)
            clear hm2
            go_wp2
            go_roundw
            case rel => exact ⟨k + 1, by omega, by omega, by go_num, by rw [hsu.out]; unfold actN; rw [HQ.out]; congr 1; omega, HM2.out⟩
            case measure => simp [intOf]; omega
        · have HQ := Lib.hid (rowsN_all (L := l[k].L) (k := 61) (by omega) q (by omega))
          clear hm2
          go_wp2
          go_roundw
          case rel => exact ⟨k + 1, by omega, by omega, by go_num, by rw [hsu.out]; unfold actN; rw [HQ.out]; congr 1; omega, HM2.out⟩
          case measure => simp [intOf]; omega
    · have HQ : RowKit.Hid (smallB l = (decide (l.length ≤ 60) && decide (actsN l k ≤ 20000))) := by
        refine Lib.hid ?_
        unfold smallB
        by_cases hk2 : k < l.length
        · obtain rfl : k = 61 := by omega
          rfl
        · rw [actsN_all (l := l) (k := 61) (by omega) k (by omega)]
      by_cases hk2 : k < l.length
      · have hk3 : ¬ k ≤ 60 := fun h => hlt ⟨hk2, h⟩
        have h60 : ¬ l.length ≤ 60 := by omega
        have HE : RowKit.Hid (smallB l = false) := Lib.hid (by rw [HQ.out, decide_eq_false h60]; rfl)
        clear hm
        go_wp2
        go_ret
        exact ⟨by rw [HE.out]; rfl, HM.out⟩
      · by_cases h60 : l.length ≤ 60
        · by_cases hn : actsN l k ≤ 20000
          · have HE : RowKit.Hid (smallB l = true) := Lib.hid (by rw [HQ.out, decide_eq_true h60, decide_eq_true hn]; rfl)
            have HDD : RowKit.Hid (decide ((actsN l k : Int) ≤ 20000) = true) := Lib.hid (by rw [decide_eq_true_eq]; omega)
            clear hm
            go_wp2
            go_ret
            exact ⟨by rw [HE.out]; exact congrArg (fun b => Ending.returned (Value.bool b)) HDD.out, HM.out⟩
          · have HE : RowKit.Hid (smallB l = false) := Lib.hid (by rw [HQ.out, decide_eq_true h60, decide_eq_false hn]; rfl)
            have HDD : RowKit.Hid (decide ((actsN l k : Int) ≤ 20000) = false) := Lib.hid (by rw [decide_eq_false_iff_not]; omega)
            clear hm
            go_wp2
            go_ret
            exact ⟨by rw [HE.out]; exact congrArg (fun b => Ending.returned (Value.bool b)) HDD.out, HM.out⟩
        · have HE : RowKit.Hid (smallB l = false) := Lib.hid (by rw [HQ.out, decide_eq_false h60]; rfl)
          clear hm
          go_wp2
          go_ret
          exact ⟨by rw [HE.out]; rfl, HM.out⟩
end Go.Proofs.Ytnfecdjcddidgaa
