/- A row of tails: copied, read. -/
import Derived.Test.YtnfecdjcddidgaaLawH
namespace Go.Proofs.Ytnfecdjcddidgaa
open Go.RowKit Go.Maps

def Tail.cells (t : Tail) : List Value := [.int .i64 t.file, .int .i64 t.keep, .int .u8 t.turn.toNat]
def tcells (ts : List Tail) : List Value := ts.flatMap Tail.cells
theorem tcells_length (ts : List Tail) : (tcells ts).length = ts.length * 3 := by
  induction ts with
  | nil => rfl
  | cons f r ih => simp only [tcells, List.flatMap_cons, List.length_append, List.length_cons] at ih ⊢; rw [ih]; simp [Tail.cells]; omega
theorem tcells_get : ∀ (ts : List Tail) (i r : Nat) (hi : i < ts.length), r < 3 → (tcells ts)[i * 3 + r]? = (Tail.cells ts[i])[r]?
  | t :: q, 0, r, _, hr => by
    have : tcells (t :: q) = Tail.cells t ++ tcells q := rfl
    rw [this, List.getElem?_append_left (by simp [Tail.cells]; omega)]; simp
  | t :: q, i + 1, r, hi, hr => by
    have h := tcells_get q i r (by simpa using hi) hr
    have : tcells (t :: q) = Tail.cells t ++ tcells q := rfl
    rw [this, List.getElem?_append_right (by simp [Tail.cells]; omega)]
    rw [show (i + 1) * 3 + r - (Tail.cells t).length = i * 3 + r by simp [Tail.cells]; omega]
    simpa using h
theorem tcells_one (ts : List Tail) : ∀ u ∈ tcells ts, u.oneCell' = true := by
  intro u hu
  obtain ⟨t, _, hu⟩ := List.mem_flatMap.1 hu
  simp only [Tail.cells, List.mem_cons, List.not_mem_nil, or_false] at hu
  rcases hu with rfl | rfl | rfl <;> rfl
/-- What is read, cell by cell. -/
theorem tails_read {F : Nat → Prop} {w : World} {A : Option Addr} {ts : List Tail} (h : SC Rtail F w A ts) : ∀ ad, A = some ad → ∀ j u, (tcells ts)[j]? = some u → w.cell? (ad.add j) = some u := by
  intro ad e j u hu
  have hj := (List.getElem?_eq_some_iff.1 hu).1
  rw [tcells_length] at hj
  have hi : j / 3 < ts.length := by omega
  obtain ⟨b, o, cs, e2, _, ⟨rfl, _, _⟩, hc⟩ := h.at_ hi
  rw [e] at e2
  cases e2
  have hg := tcells_get ts (j / 3) (j % 3) hi (by omega)
  rw [show j / 3 * 3 + j % 3 = j by omega, hu] at hg
  have := hc (j % 3) u hg.symm
  have e3 : o + j / 3 * Rtail.sz + j % 3 = o + j := by simp only [Rtail]; omega
  rw [e3] at this
  rw [addr_add]; exact this
theorem tails_wf {F : Nat → Prop} {w : World} {A : Option Addr} {ts : List Tail} (h : SC Rtail F w A ts) {i : Nat} (hi : i < ts.length) : (Lit.int .i64 ts[i].file).wf = true ∧ (Lit.int .i64 ts[i].keep).wf = true := by
  obtain ⟨b, o, cs, _, _, ⟨_, h1, h2⟩, _⟩ := h.at_ hi
  exact ⟨h1, h2⟩
/-- A copy reads the same. -/
theorem tails_own {w : World} {B : Nat} {v : Value} {ts : List Tail} (h : w.ownsRow B 67 3 v ts.length (tcells ts)) (hw : ∀ i (hi : i < ts.length), (Lit.int .i64 ts[i].file).wf = true ∧ (Lit.int .i64 ts[i].keep).wf = true) :
    ∃ A c, v = .slice A ts.length c ∧ SC Rtail (fun b => B ≤ b ∧ b < w.heap.size) w A ts := by
  obtain ⟨A, c, rfl, hc, hA⟩ := own_form h
  refine ⟨A, c, rfl, fun h0 => ?_⟩
  rcases hA with rfl | ⟨g, rfl, hg⟩
  · rcases h.2 with ⟨_, h1⟩ | ⟨g, cap, cur, h1, _⟩
    · omega
    · cases h1
  · refine ⟨g, 0, rfl, h.lt g hg, fun i hi => ⟨Tail.cells ts[i], ⟨rfl, hw i hi⟩, fun j u hu => ?_⟩⟩
    have hj : j < 3 := by have := (List.getElem?_eq_some_iff.1 hu).1; simpa [Tail.cells] using this
    have := h.cells hg (i * 3 + j) u (by rw [tcells_get ts i j hi hj]; exact hu)
    rw [addr_add] at this
    have e : 0 + i * Rtail.sz + j = 0 + (i * 3 + j) := by simp only [Rtail]; omega
    rw [e]; exact this
theorem info67 : (Try.prog.info? 67).map (fun i => (i.zero, i.size, i.bytes)) = some (some (.agg #[.int .i64 0, .int .i64 0, .int .u8 0]), 3, 24) := by kernel_rfl
end Go.Proofs.Ytnfecdjcddidgaa
