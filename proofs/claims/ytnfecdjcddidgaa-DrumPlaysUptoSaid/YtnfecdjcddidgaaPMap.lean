/- Maps whose elements are pointers to structs of the program's own: over any program. -/
import Derived.Test.YtnfecdjcddidgaaBase
import Derived.Maps.OwnSet
namespace Go.Proofs.Ytnfecdjcddidgaa
open Go.RowKit Go.Maps

/-- How a pointer to a block's front reads: by the block's number. -/
def Rptr : Value → Option (DataW Unit × List MemPlace)
  | .pointer none => some (.nil, [])
  | .pointer (some ⟨b, 0, none⟩) => some (.lit (.int .i64 b), [])
  | _ => none
theorem Rptr_inv {v : Value} {b : Nat} {ps : List MemPlace} (h : Rptr v = some (.lit (.int .i64 b), ps)) : v = .pointer (some ⟨b, 0, none⟩) := by
  unfold Rptr at h
  split at h
  · cases h
  · rename_i b'
    simp only [Option.some.injEq, Prod.mk.injEq, DataW.lit.injEq, Lit.int.injEq, true_and] at h
    obtain ⟨h, _⟩ := h
    obtain rfl : b' = b := by omega
    rfl
  · cases h
theorem Rptr_nil {v : Value} {ps : List MemPlace} (h : Rptr v = some (.nil, ps)) : v = .pointer none := by
  unfold Rptr at h
  split at h
  · rfl
  · cases h
  · cases h
theorem Rptr_ptr (b : Nat) : Rptr (.pointer (some ⟨b, 0, none⟩)) = some (.lit (.int .i64 b), []) := rfl

/-- A map of numbers to blocks, as read: sorted by its keys. -/
def pmap (l : List (Int × Nat)) : DataW Unit := .map (l.map fun p => (.int .i64 p.1, .lit (.int .i64 p.2)))

theorem pmap_has (l : List (Int × Nat)) (n : Int) : Maps.has (pmap l) (.int .i64 n) = l.any fun p => decide (p.1 = n) := by
  simp [pmap, Maps.has, Lit.sameKey, List.any_map, Function.comp_def]
theorem pmap_at {l : List (Int × Nat)} {n : Int} {b : Nat} (hs : l.Pairwise fun p q => p.1 < q.1) (h : (n, b) ∈ l) (z : DataW Unit) : (pmap l).atKey (.int .i64 n) z = .lit (.int .i64 b) := by
  simp only [pmap, DataW.atKey]
  have hf : (l.map fun p : Int × Nat => ((.int .i64 p.1, .lit (.int .i64 p.2)) : Lit × DataW Unit)).find? (fun p => p.1.sameKey (.int .i64 n)) = some (.int .i64 n, .lit (.int .i64 b)) := by
    induction l with
    | nil => cases h
    | cons p r ih =>
      rw [List.map_cons, List.find?_cons]
      rcases List.mem_cons.1 h with rfl | h'
      · simp [Lit.sameKey]
      · have hlt := (List.pairwise_cons.1 hs).1 _ h'
        have : ((Lit.int IntKind.i64 p.1).sameKey (.int .i64 n)) = false := by simp [Lit.sameKey]; simp at hlt; omega
        rw [this]
        exact ih (List.pairwise_cons.1 hs).2 h'
  rw [hf]
theorem pmap_del (l : List (Int × Nat)) (n : Int) : (pmap l).del (.int .i64 n) = pmap (l.filter fun p => decide (p.1 ≠ n)) := by
  simp only [pmap, DataW.del]
  congr 1
  rw [List.filter_map]
  congr 1
  apply List.filter_congr
  intro p _
  simp [Lit.sameKey]
/-- Its place among rising ones. -/
def insP (n : Int) (b : Nat) : List (Int × Nat) → List (Int × Nat)
  | [] => [(n, b)]
  | p :: r => if n < p.1 then (n, b) :: p :: r else p :: insP n b r
theorem pmap_put {l : List (Int × Nat)} {n : Int} {b : Nat} (h : l.any (fun p => decide (p.1 = n)) = false) : (pmap l).put (.int .i64 n) (.lit (.int .i64 b)) = pmap (insP n b l) := by
  simp only [pmap, DataW.put]
  congr 1
  have hf : (l.map fun p : Int × Nat => ((.int .i64 p.1, .lit (.int .i64 p.2)) : Lit × DataW Unit)).filter (fun p => !p.1.sameKey (.int .i64 n)) = l.map fun p : Int × Nat => ((.int .i64 p.1, .lit (.int .i64 p.2)) : Lit × DataW Unit) := by
    rw [List.filter_eq_self]
    intro p hp
    obtain ⟨q, hq, rfl⟩ := List.mem_map.1 hp
    simp only [List.any_eq_false, decide_eq_true_eq] at h
    have := h q hq
    simp [Lit.sameKey, this]
  rw [hf]
  clear hf h
  induction l with
  | nil => rfl
  | cons p r ih =>
    simp only [List.map_cons, DataW.insert, insP, Lit.before]
    by_cases hlt : n < p.1
    · simp [hlt]
    · simp [hlt, ih]

section
variable {P : Program} {w : World} {ops : Array Oper} {rest : List Oper} {o : Oper} {a : Act} {Q : Exit → Act → World → Prop}
theorem wp_look_hit (hg : o.guard = none) (m x : Operand) (t : TypeId) (hop : o.op = Op.lookup t m x true)
    (k e : TypeId) (K : Keyed P k) (hk : P.underlying k = some (.int .i64)) (ht : P.underlying t = some (.map k e)) (hz : (zeroValue e).run P w = .ok (.pointer none) w) (b N : Nat) (l : List (Int × Nat))
    (hm : a.eval m = .map (some b)) (hown : w.ownsMap P k Rptr b N (pmap l)) (n : Int) (hwf : (Lit.int .i64 n).wf = true) (hx : a.eval x = .int .i64 n) (fb : Nat) (hs : l.Pairwise fun p q => p.1 < q.1) (hin : (n, fb) ∈ l)
    (hK : wpList P ops Q rest (a.put o.dst (.tuple #[.pointer (some ⟨fb, 0, none⟩), .bool true])) w) : wpList P ops Q (o :: rest) a w := by
  refine wpList_lookup_own_ok w hg m x t hop k e K ht Rptr hz .nil [] rfl b N (pmap l) hm hown _ _ hx (keyOf_int_mk hk hwf) fun v ps hv => ?_
  rw [pmap_at hs hin] at hv
  have hh : Maps.has (pmap l) (.int .i64 n) = true := by rw [pmap_has, List.any_eq_true]; exact ⟨_, hin, by simp⟩
  rw [Rptr_inv hv, hh]
  exact hK
theorem wp_look_miss (hg : o.guard = none) (m x : Operand) (t : TypeId) (hop : o.op = Op.lookup t m x true)
    (k e : TypeId) (K : Keyed P k) (hk : P.underlying k = some (.int .i64)) (ht : P.underlying t = some (.map k e)) (hz : (zeroValue e).run P w = .ok (.pointer none) w) (b N : Nat) (l : List (Int × Nat))
    (hm : a.eval m = .map (some b)) (hown : w.ownsMap P k Rptr b N (pmap l)) (n : Int) (hwf : (Lit.int .i64 n).wf = true) (hx : a.eval x = .int .i64 n) (hno : ∀ p ∈ l, p.1 ≠ n)
    (hK : wpList P ops Q rest (a.put o.dst (.tuple #[.pointer none, .bool false])) w) : wpList P ops Q (o :: rest) a w := by
  have hh : Maps.has (pmap l) (.int .i64 n) = false := by
    rw [pmap_has, List.any_eq_false]; intro p hp; simp [hno p hp]
  refine wpList_lookup_own_ok w hg m x t hop k e K ht Rptr hz .nil [] rfl b N (pmap l) hm hown _ _ hx (keyOf_int_mk hk hwf) fun v ps hv => ?_
  rw [atKey_of_not_has hh] at hv
  rw [Rptr_nil hv, hh]
  exact hK
end
end Go.Proofs.Ytnfecdjcddidgaa
