/- The document's drum: what stands for it in a world, and its small functions. -/
import Derived.Test.YtnfecdjcddidgaaCrashB
import Derived.BigQuiet
namespace Go.Proofs.Ytnfecdjcddidgaa
open Go.RowKit Go.Maps

structure RF where
  n : Int
  bv : Value
  safe : List UInt8
  rest : List UInt8
def RF.abs (f : RF) : PF := ⟨f.n, f.safe, f.rest⟩
def RF.cells (f : RF) : List Value := [.int .i64 f.n, f.bv, .int .i64 f.safe.length]
def rcells (fs : List RF) : List Value := fs.flatMap RF.cells
def rabs (fs : List RF) : List PF := fs.map RF.abs

theorem rcells_get : ∀ (fs : List RF) (k : Nat) (hk : k < fs.length), (rcells fs)[k * 3]? = some (.int .i64 fs[k].n) ∧ (rcells fs)[k * 3 + 1]? = some fs[k].bv ∧ (rcells fs)[k * 3 + 2]? = some (.int .i64 fs[k].safe.length)
  | f :: r, 0, _ => ⟨rfl, rfl, rfl⟩
  | f :: r, k + 1, hk => by
    have h := rcells_get r k (by simpa using hk)
    have e : ∀ j, (rcells (f :: r))[(k + 1) * 3 + j]? = (rcells r)[k * 3 + j]? := fun j => by
      have : rcells (f :: r) = RF.cells f ++ rcells r := rfl
      rw [this, List.getElem?_append_right (by simp [RF.cells]; omega)]
      congr 1
      simp [RF.cells]; omega
    refine ⟨?_, ?_, ?_⟩
    · have := e 0; rw [Nat.add_zero, Nat.add_zero] at this; rw [this]; exact h.1
    · rw [e 1]; exact h.2.1
    · rw [e 2]; exact h.2.2
theorem rcells_length (fs : List RF) : (rcells fs).length = fs.length * 3 := by
  induction fs with
  | nil => rfl
  | cons f r ih => simp only [rcells, List.flatMap_cons, List.length_append, List.length_cons] at ih ⊢; rw [ih]; simp [RF.cells]; omega

structure Rf (w : World) (r : Nat) (lv : Value) (fs : List RF) (s : DSt) : Prop where
  st : w.heap[r]? = some (.cells #[lv, .int .i64 (s.free + psum (rabs fs)), .int .i64 s.left, .bool s.dead, .int .i64 s.ops] 46 (0, 0))
  ls : w.ownsRow 0 83 3 lv fs.length (rcells fs)
  fl : ∀ f ∈ fs, OB w 5 f.bv (f.safe ++ f.rest)
  sorted : fs.Pairwise fun f g => f.n < g.n
  rng : ∀ f ∈ fs, 1 ≤ f.n ∧ f.n ≤ 1000
  room : 0 ≤ s.free ∧ s.free + psum (rabs fs) ≤ 4194304

def Rf.foot (r : Nat) (lv : Value) (fs : List RF) : List Nat := r :: (lv.ownBlock.toList ++ fs.flatMap fun f => f.bv.ownBlock.toList)
theorem Rf.foot_spec {r : Nat} {lv : Value} {fs : List RF} {k : Nat} : k ∈ Rf.foot r lv fs ↔ k = r ∨ lv.ownBlock = some k ∨ ∃ f ∈ fs, f.bv.ownBlock = some k := by
  simp [Rf.foot, List.mem_flatMap]

theorem psum_nonneg : ∀ L : List PF, 0 ≤ psum L
  | [] => Int.le_refl _
  | f :: r => by have := psum_nonneg r; simp only [psum]; omega
theorem psum_mem : ∀ {L : List PF} {f : PF}, f ∈ L → (f.sz : Int) ≤ psum L
  | [], _, h => nomatch h
  | g :: r, f, h => by
    have h1 := psum_nonneg r
    rcases List.mem_cons.1 h with rfl | h
    · simp only [psum]; omega
    · have := psum_mem h; simp only [psum]; omega

theorem Rf.kept {w w' : World} {r : Nat} {lv : Value} {fs : List RF} {s : DSt} (h : Rf w r lv fs s) {M : Nat → Prop} (hm : Mod M w w') (hn : ∀ k ∈ Rf.foot r lv fs, ¬ M k) : Rf w' r lv fs s :=
  ⟨heap_mod h.st hm (hn _ (Rf.foot_spec.2 (.inl rfl))), own_kept h.ls hm (fun k hk => hn k (Rf.foot_spec.2 (.inr (.inl hk)))), fun f hf => own_kept (h.fl f hf) hm (fun k hk => hn k (Rf.foot_spec.2 (.inr (.inr ⟨f, hf, hk⟩)))), h.sorted, h.rng, h.room⟩
theorem Rf.lt {w : World} {r : Nat} {lv : Value} {fs : List RF} {s : DSt} (h : Rf w r lv fs s) {k : Nat} (hk : k ∈ Rf.foot r lv fs) : k < w.heap.size := by
  rcases Rf.foot_spec.1 hk with rfl | hk | ⟨f, hf, hk⟩
  · exact heap_lt h.st
  · exact own_lt h.ls hk
  · exact own_lt (h.fl f hf) hk
theorem Rf.ne_l {w : World} {r : Nat} {lv : Value} {fs : List RF} {s : DSt} (h : Rf w r lv fs s) : lv.ownBlock ≠ some r := fun e => ne_own h.st h.ls (by decide) e.symm
theorem Rf.ne_b {w : World} {r : Nat} {lv : Value} {fs : List RF} {s : DSt} (h : Rf w r lv fs s) {f : RF} (hf : f ∈ fs) : f.bv.ownBlock ≠ some r := fun e => ne_own h.st (h.fl f hf) (by decide) e.symm
theorem Rf.ne_lb {w : World} {r : Nat} {lv : Value} {fs : List RF} {s : DSt} (h : Rf w r lv fs s) {f : RF} (hf : f ∈ fs) {k : Nat} (hk : lv.ownBlock = some k) : f.bv.ownBlock ≠ some k := by
  obtain ⟨cs, hcs⟩ := own_block h.ls hk
  exact fun e => ne_own hcs (h.fl f hf) (by decide) e.symm
theorem Rf.set {w w' : World} {r : Nat} {lv : Value} {fs : List RF} {s s' : DSt} (h : Rf w r lv fs s) (hm : Mod (· = r) w w') (hf : s'.free = s.free)
    (hst : w'.heap[r]? = some (.cells #[lv, .int .i64 (s.free + psum (rabs fs)), .int .i64 s'.left, .bool s'.dead, .int .i64 s'.ops] 46 (0, 0))) : Rf w' r lv fs s' :=
  ⟨by rw [hf]; exact hst, own_kept h.ls hm (fun k hk e => h.ne_l (e ▸ hk)), fun f hfm => own_kept (h.fl f hfm) hm (fun k hk e => h.ne_b hfm (e ▸ hk)), h.sorted, h.rng, by rw [hf]; exact h.room⟩
theorem Rf.count {w : World} {r : Nat} {lv : Value} {fs : List RF} {s : DSt} (h : Rf w r lv fs s) : fs.length ≤ 1000 := by
  have := rising_length (fs.map RF.n) 1 1000 (by rw [List.pairwise_map]; exact h.sorted) (fun x hx => by obtain ⟨f, hf, rfl⟩ := List.mem_map.1 hx; exact h.rng f hf) (by omega)
  rw [List.length_map] at this
  omega
/-- The list's cells. -/
theorem Rf.at_ {w : World} {r : Nat} {lv : Value} {fs : List RF} {s : DSt} (h : Rf w r lv fs s) {k : Nat} (hk : k < fs.length) :
    ∃ lb c, lv = .slice (some ⟨lb, 0, none⟩) fs.length c ∧ fs.length ≤ c ∧ w.cell? ⟨lb, k * 3, none⟩ = some (.int .i64 fs[k].n) ∧ w.cell? ⟨lb, k * 3 + 1, none⟩ = some fs[k].bv ∧ w.cell? ⟨lb, k * 3 + 2, none⟩ = some (.int .i64 fs[k].safe.length) := by
  rcases h.ls.2 with ⟨_, h0⟩ | ⟨g, cap, cur, hv, _, hg, hcap, _⟩
  · omega
  · have hc := h.ls.cells (g := g) (by rw [hv]; rfl)
    obtain ⟨h1, h2, h3⟩ := rcells_get fs k hk
    have e : ∀ j, ((⟨g, 0, none⟩ : Addr).add j) = ⟨g, j, none⟩ := fun j => by simp [Addr.add]; exact Eq.symm
    exact ⟨g, cap, hv, hcap, e _ ▸ hc _ _ h1, e _ ▸ hc _ _ h2, e _ ▸ hc _ _ h3⟩

/-! ### The small functions -/

def gcode (n : Int) (s : DSt) : Int := if n < 1 ∨ 1000 < n then 2 else if s.dead = true ∨ s.left = 0 then 140 else 0
def gst (n : Int) (s : DSt) : DSt := if n < 1 ∨ 1000 < n then s else if s.dead = true ∨ s.left = 0 then { s with dead := true } else opers s
theorem gated_of {n : Int} {L : List PF} {s : DSt} {F : DSt → Step} : gated n L s F = if gcode n s = 0 then bump (F (gst n s)) else ⟨gcode n s, L, gst n s⟩ := by
  unfold gated gcode gst
  by_cases h1 : n < 1 ∨ 1000 < n
  · simp [h1]
  · by_cases h2 : s.dead = true ∨ s.left = 0
    · simp [h1, h2]
    · simp [h1, h2]

theorem ref_new (n : Int) (w : World) (h1 : 0 ≤ n) (h2 : n ≤ 4194304) :
    Calls Try.prog 12 #[.int .i64 n] w fun e w' => e = .returned (.pointer (some ⟨w.heap.size, 0, none⟩)) ∧ Rf w' w.heap.size (.slice none 0 0) [] (newSt n) ∧ Mod Nil w w' := by
  go_enter Try.func12, Try.ntmps12
  go_wp2
  go_ret
  refine ⟨rfl, ⟨?_, World.ownsRow_nil _ _ _ _, by simp, by simp, by simp, ?_⟩, (Mod.refl Nil w).alloc _⟩
  · simpa [newSt, rabs, psum] using heap_new w (.cells #[.slice none 0 0, .int .i64 n, .int .i64 (-1), .bool false, .int .i64 0] 46 (0, 0))
  · simp only [newSt, rabs, List.map_nil, psum]; omega
end Go.Proofs.Ytnfecdjcddidgaa
