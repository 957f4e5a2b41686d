/- Plain words on worlds and on data that is read, over any program: no statement of the program stands here. -/
import Derived.Maps.OwnSet
import Derived.Maps.AppendAt
import Derived.WalkKit
import Derived.WalkLawsBesides
import Derived.Handy
import Derived.Outline
import Derived.Deep.Slices
namespace Go.Proofs.Ytnfecdjcddidgaa
open Go.RowKit Go.Maps

/-! ### 1. What may have turned -/

/-- Of the blocks that were there, at most those of M have turned. -/
structure Mod (M : Nat → Prop) (w w' : World) : Prop where
  os : w'.os = w.os
  tape : w'.tape = w.tape
  output : w'.output = w.output
  size : w.heap.size ≤ w'.heap.size
  block : ∀ k, k < w.heap.size → ¬ M k → w'.heap[k]? = w.heap[k]?

def Nil : Nat → Prop := fun _ => False

theorem Mod.refl (M : Nat → Prop) (w : World) : Mod M w w := ⟨rfl, rfl, rfl, Nat.le_refl _, fun _ _ _ => rfl⟩
theorem Mod.mono {M M' : Nat → Prop} {w w' : World} (h : Mod M w w') (s : ∀ k, M k → M' k ∨ w.heap.size ≤ k) : Mod M' w w' :=
  ⟨h.os, h.tape, h.output, h.size, fun k hk hn => h.block k hk (fun hm => (s k hm).elim hn (by omega))⟩
theorem Mod.trans {M M1 M2 : Nat → Prop} {a b c : World} (h : Mod M1 a b) (h' : Mod M2 b c) (s1 : ∀ k, M1 k → M k ∨ a.heap.size ≤ k) (s2 : ∀ k, M2 k → M k ∨ a.heap.size ≤ k) : Mod M a c :=
  ⟨h'.os.trans h.os, h'.tape.trans h.tape, h'.output.trans h.output, Nat.le_trans h.size h'.size,
   fun k hk hn => (h'.block k (Nat.lt_of_lt_of_le hk h.size) (fun hm => (s2 k hm).elim hn (by omega))).trans (h.block k hk (fun hm => (s1 k hm).elim hn (by omega)))⟩
theorem Mod.then {M : Nat → Prop} {a b c : World} (h : Mod M a b) (h' : Mod M b c) : Mod M a c := h.trans h' (fun _ => .inl) (fun _ => .inl)
theorem Mod.alloc {M : Nat → Prop} {a w : World} (h : Mod M a w) (o : Obj) : Mod M a (w.alloc o) :=
  h.then ⟨rfl, rfl, rfl, by simp, fun k hk _ => Below.heap_alloc _ _ _ hk⟩
theorem Mod.drew {M : Nat → Prop} {a w : World} (h : Mod M a w) : Mod M a w.drew := ⟨h.os, h.tape, h.output, h.size, h.block⟩
theorem Mod.drewN {M : Nat → Prop} {a w : World} (h : Mod M a w) (n : Nat) : Mod M a (w.drewN n) := ⟨h.os, h.tape, h.output, h.size, h.block⟩
theorem Mod.setCell {M : Nat → Prop} {a w : World} (h : Mod M a w) {p : Addr} (hp : M p.block ∨ a.heap.size ≤ p.block) (u : Value) : Mod M a (w.setCell p u) :=
  h.trans (M2 := fun k => k = p.block) ⟨rfl, rfl, rfl, by simp, fun k _ hn => Below.heap_setCell _ _ _ _ hn⟩ (fun _ => .inl) (fun _ e => by subst e; exact hp)
theorem Mod.grown {M : Nat → Prop} {a w w' : World} (h : Mod M a w) {row : Option Nat} (hg : w.grownBy w' row) (hr : ∀ k, row = some k → M k ∨ a.heap.size ≤ k) : Mod M a w' :=
  h.trans (M2 := fun k => row = some k) ⟨hg.os, hg.tape, hg.output, hg.size, fun k hk hn => hg.block k hk (fun e => hn e.symm)⟩ (fun _ => .inl) hr
theorem Mod.of_below {w w' : World} (h : Below w.heap.size w w') (M : Nat → Prop) : Mod M w w' := ⟨h.os, h.tape, h.output, h.size, fun k hk _ => h.block k hk⟩
theorem Mod.below {B : Nat} {M : Nat → Prop} {w w' : World} (h : Mod M w w') (hB : B ≤ w.heap.size) (hM : ∀ k, M k → B ≤ k) : Below B w w' :=
  ⟨h.os, h.tape, h.output, h.size, fun k hk => h.block k (by omega) (fun hm => by have := hM k hm; omega)⟩
theorem Mod.nil_below {w w' : World} (h : Mod Nil w w') : Below w.heap.size w w' := h.below (Nat.le_refl _) (fun _ h => h.elim)
theorem Mod.grownBy {w w' : World} {row : Option Nat} {M : Nat → Prop} (h : Mod M w w') (hM : ∀ k, M k → row = some k ∨ w.heap.size ≤ k) : w.grownBy w' row :=
  ⟨h.os, h.tape, h.output, h.size, fun k hk hn => h.block k hk (fun hm => (hM k hm).elim (fun e => hn e.symm) (by omega))⟩

theorem grownBy_none_of_mod {w w' : World} (h : Mod Nil w w') : w.grownBy w' none := h.grownBy (fun _ h => h.elim)

/-- A block's own text. -/
theorem heap_cell {w : World} {b : Nat} {cs : Array Value} {t : TypeId} {fr : Nat × Nat} (h : w.heap[b]? = some (.cells cs t fr)) (i : Nat) : w.cell? ⟨b, i, none⟩ = cs[i]? := by simp [World.cell?, h]
theorem heap_free {w : World} {b : Nat} {cs : Array Value} {t : TypeId} (h : w.heap[b]? = some (.cells cs t (0, 0))) (i : Nat) : w.frozen? ⟨b, i, none⟩ = false := by simp [World.frozen?, h]
theorem heap_setCell {w : World} {b : Nat} {cs : Array Value} {t : TypeId} {fr : Nat × Nat} (h : w.heap[b]? = some (.cells cs t fr)) (i : Nat) (v : Value) : (w.setCell ⟨b, i, none⟩ v).heap[b]? = some (.cells (cs.setIfInBounds i v) t fr) := by
  simp [World.setCell, Array.getElem?_modify, h]
theorem heap_setCell_other {w : World} {b : Nat} {o : Option Obj} (h : w.heap[b]? = o) {p : Addr} (hne : b ≠ p.block) (v : Value) : (w.setCell p v).heap[b]? = o := by rw [Below.heap_setCell _ _ _ _ hne, h]
theorem heap_alloc {w : World} {b : Nat} {x : Obj} (h : w.heap[b]? = some x) (o : Obj) : (w.alloc o).heap[b]? = some x := by
  rw [Below.heap_alloc _ _ _ (Array.getElem?_eq_some_iff.1 h).1, h]
theorem heap_lt {w : World} {b : Nat} {x : Obj} (h : w.heap[b]? = some x) : b < w.heap.size := (Array.getElem?_eq_some_iff.1 h).1
theorem heap_mod {M : Nat → Prop} {w w' : World} {b : Nat} {x : Obj} (h : w.heap[b]? = some x) (m : Mod M w w') (hn : ¬ M b) : w'.heap[b]? = some x := (m.block b (heap_lt h) hn).trans h
theorem heap_new (w : World) (o : Obj) : (w.alloc o).heap[w.heap.size]? = some o := heap_alloc_new w o

/-! ### 2. What is read: cells that stand for a value, their memory within F -/

structure Rdr (α : Type) where
  sz : Nat
  K : (Nat → Prop) → World → α → List Value → Prop
  len : ∀ {F w x cs}, K F w x cs → cs.length = sz
  frame : ∀ {F w x cs} {w' : World}, K F w x cs → (∀ b, F b → b < w.heap.size → w'.heap[b]? = w.heap[b]?) → K F w' x cs
  mono : ∀ {F F' : Nat → Prop} {w x cs}, K F w x cs → (∀ b, F b → b < w.heap.size → F' b) → K F' w x cs

/-- The n elements at A read as xs. -/
def SC {α : Type} (d : Rdr α) (F : Nat → Prop) (w : World) (A : Option Addr) (xs : List α) : Prop :=
  0 < xs.length → ∃ b o, A = some ⟨b, o, none⟩ ∧ F b ∧ ∀ i (hi : i < xs.length), ∃ cs, d.K F w xs[i] cs ∧ ∀ j u, cs[j]? = some u → w.cell? ⟨b, o + i * d.sz + j, none⟩ = some u

theorem SC.frame {α : Type} {d : Rdr α} {F : Nat → Prop} {w w' : World} {A : Option Addr} {xs : List α} (h : SC d F w A xs) (hs : 0 < d.sz) (hw : ∀ b, F b → b < w.heap.size → w'.heap[b]? = w.heap[b]?) : SC d F w' A xs := by
  intro hl
  obtain ⟨b, o, rfl, hF, h⟩ := h hl
  refine ⟨b, o, rfl, hF, fun i hi => ?_⟩
  obtain ⟨cs, hK, hc⟩ := h i hi
  refine ⟨cs, d.frame hK hw, fun j u hu => ?_⟩
  have hcj := hc j u hu
  exact (World.cell?_of_block (w := w) (hw b hF (World.block_lt_of_cell? w _ hcj))).trans hcj

theorem SC.mono {α : Type} {d : Rdr α} {F F' : Nat → Prop} {w : World} {A : Option Addr} {xs : List α} (h : SC d F w A xs) (hs : 0 < d.sz) (s : ∀ b, F b → b < w.heap.size → F' b) : SC d F' w A xs := by
  intro hl
  obtain ⟨b, o, rfl, hF, h⟩ := h hl
  refine ⟨b, o, rfl, ?_, fun i hi => ?_⟩
  · obtain ⟨cs, hK, hc⟩ := h 0 hl
    have hlen := d.len hK
    have hc0 := hc 0 (cs[0]'(by omega)) (List.getElem?_eq_getElem (by omega))
    exact s b hF (World.block_lt_of_cell? w _ hc0)
  · obtain ⟨cs, hK, hc⟩ := h i hi
    exact ⟨cs, d.mono hK s, hc⟩

/-- A slice within the bound of what a slice may take. -/
def Rdr.slice {α : Type} (d : Rdr α) (hs : 0 < d.sz) : Rdr (List α) where
  sz := 1
  K := fun F w xs cs => ∃ A c, cs = [.slice A xs.length c] ∧ xs.length ≤ c ∧ xs.length ≤ 140737488351232 ∧ SC d F w A xs
  len := by rintro F w x cs ⟨A, c, rfl, _⟩; rfl
  frame := by rintro F w x cs w' ⟨A, c, rfl, h1, h2, h3⟩ hw; exact ⟨A, c, rfl, h1, h2, h3.frame hs hw⟩
  mono := by rintro F F' w x cs ⟨A, c, rfl, h1, h2, h3⟩ s; exact ⟨A, c, rfl, h1, h2, h3.mono hs s⟩

def Rdr.int (k : IntKind) : Rdr Int where
  sz := 1
  K := fun _ _ x cs => cs = [.int k x] ∧ (Lit.int k x).wf = true
  len := by rintro F w x cs ⟨rfl, _⟩; rfl
  frame := by rintro F w x cs w' h _; exact h
  mono := by rintro F F' w x cs h _; exact h

def Rdr.byte : Rdr UInt8 where
  sz := 1
  K := fun _ _ x cs => cs = [.int .u8 x.toNat]
  len := by rintro F w x cs rfl; rfl
  frame := by rintro F w x cs w' h _; exact h
  mono := by rintro F F' w x cs h _; exact h

def Rdr.bool : Rdr Bool where
  sz := 1
  K := fun _ _ x cs => cs = [.bool x]
  len := by rintro F w x cs rfl; rfl
  frame := by rintro F w x cs w' h _; exact h
  mono := by rintro F F' w x cs h _; exact h

def Rdr.str : Rdr ByteArray where
  sz := 1
  K := fun _ _ x cs => cs = [.string x] ∧ x.size ≤ 140737488351232
  len := by rintro F w x cs ⟨rfl, _⟩; rfl
  frame := by rintro F w x cs w' h _; exact h
  mono := by rintro F F' w x cs h _; exact h

def Rdr.pair {α β : Type} (d : Rdr α) (e : Rdr β) : Rdr (α × β) where
  sz := d.sz + e.sz
  K := fun F w x cs => ∃ c1 c2, cs = c1 ++ c2 ∧ d.K F w x.1 c1 ∧ e.K F w x.2 c2
  len := by rintro F w x cs ⟨c1, c2, rfl, h1, h2⟩; rw [List.length_append, d.len h1, e.len h2]
  frame := by rintro F w x cs w' ⟨c1, c2, rfl, h1, h2⟩ hw; exact ⟨c1, c2, rfl, d.frame h1 hw, e.frame h2 hw⟩
  mono := by rintro F F' w x cs ⟨c1, c2, rfl, h1, h2⟩ s; exact ⟨c1, c2, rfl, d.mono h1 s, e.mono h2 s⟩

def Rdr.iso {α β : Type} (d : Rdr α) (f : β → α) : Rdr β where
  sz := d.sz
  K := fun F w x cs => d.K F w (f x) cs
  len := fun h => d.len h
  frame := fun h hw => d.frame h hw
  mono := fun h s => d.mono h s

theorem Rdr.kept {α : Type} {d : Rdr α} {F : Nat → Prop} {w w' : World} {x : α} {cs : List Value} (h : d.K F w x cs) {M : Nat → Prop} (m : Mod M w w') (hF : ∀ b, F b → b < w.heap.size → ¬ M b) : d.K F w' x cs :=
  d.frame h (fun b hb hl => m.block b hl (hF b hb hl))
theorem SC.kept {α : Type} {d : Rdr α} {F : Nat → Prop} {w w' : World} {A : Option Addr} {xs : List α} (h : SC d F w A xs) (hs : 0 < d.sz) {M : Nat → Prop} (m : Mod M w w') (hF : ∀ b, F b → b < w.heap.size → ¬ M b) : SC d F w' A xs :=
  h.frame hs (fun b hb hl => m.block b hl (hF b hb hl))

/-! ### 3. From the row's own reading of an argument -/

/-- Whatever a type's cells read as in the row's words, within the row's reach, d tells. -/
def Rdr.Opens {α : Type} (d : Rdr α) (P : Program) (t : TypeId) : Prop :=
  P.cellsOf t = d.sz ∧ ∀ (H : Type) (enc : TypeId × Value → H) (w : World) (sp : Nat → Bool) (held : Bool) (n : Nat) (cs : List Value) (x : DataW H × List MemPlace),
    DataW.trod enc P w 0 sp held n t cs = some x → (∀ m ∈ x.1.weights P t, m ≤ reachBytes) → ∃ a, d.K (fun b => b < w.heap.size) w a cs

theorem opens_int {P : Program} {t : TypeId} {k : IntKind} (ht : P.underlying t = some (.int k)) (hc : P.cellsOf t = 1) : (Rdr.int k).Opens P t :=
  ⟨hc, fun H enc w sp held n cs x h _ => by obtain ⟨a, rfl, _, hw⟩ := DataW.trod_int ht h; exact ⟨a, rfl, hw⟩⟩

theorem opens_byte {P : Program} {t : TypeId} (ht : P.underlying t = some (.int .u8)) (hc : P.cellsOf t = 1) : Rdr.byte.Opens P t :=
  ⟨hc, fun H enc w sp held n cs x h _ => by
    obtain ⟨a, rfl, _, hw⟩ := DataW.trod_int ht h
    have h2 := bounds_u8 hw
    refine ⟨UInt8.ofNat a.toNat, ?_⟩
    have : ((UInt8.ofNat a.toNat).toNat : Int) = a := by
      rw [UInt8.toNat_ofNat']
      omega
    show [Value.int .u8 a] = [Value.int .u8 ((UInt8.ofNat a.toNat).toNat : Int)]
    rw [this]⟩

theorem opens_bool {P : Program} {t : TypeId} (ht : P.underlying t = some .bool) (hc : P.cellsOf t = 1) : Rdr.bool.Opens P t :=
  ⟨hc, fun H enc w sp held n cs x h _ => by obtain ⟨a, rfl, _⟩ := DataW.trod_bool ht h; exact ⟨a, rfl⟩⟩

theorem reach_le : reachBytes = 140737488351232 := by decide

theorem opens_str {P : Program} {t : TypeId} (ht : P.underlying t = some .string) (hc : P.cellsOf t = 1) : Rdr.str.Opens P t :=
  ⟨hc, fun H enc w sp held n cs x h hm => by
    obtain ⟨a, rfl, rfl, _⟩ := DataW.trod_string ht h
    refine ⟨a, rfl, ?_⟩
    have := hm a.data.toList.length (by simp [DataW.weights])
    rw [reach_le] at this
    rw [Array.length_toList] at this
    exact this⟩

theorem weights_all {H : Type} {P : Program} {e : TypeId} {d : DataW H} : ∀ {l : List (DataW H)}, d ∈ l → ∀ m ∈ d.weights P e, m ∈ DataW.weightsAll P e l
  | x :: r, h, m, hm => by
    simp only [DataW.weightsAll, List.mem_append]
    rcases List.mem_cons.1 h with rfl | h
    · exact .inl hm
    · exact .inr (weights_all h m hm)

theorem addr_plain {w : World} {a : Addr} {u : Value} (h : w.cell? a = some u) : a.spot = none := by
  unfold World.cell? at h
  split at h
  · split at h
    · cases h
    · rename_i hs; simpa using hs
  · cases h

theorem opens_slice {α : Type} {d : Rdr α} {P : Program} {t e : TypeId} (ht : P.underlying t = some (.slice e)) (hc : P.cellsOf t = 1) (hb : 0 < P.bytesOf e) (hs : 0 < d.sz) (hd : d.Opens P e) : (d.slice hs).Opens P t := by
  refine ⟨hc, fun H enc w sp held n cs x h hm => ?_⟩
  rcases Deep.open_slice ht h with ⟨rfl, rfl⟩ | ⟨a, len, cap, m, n', D, Pl, rfl, _, hl, hcap, hmm, rfl, hx⟩
  · exact ⟨[], none, 0, rfl, by simp, by simp, fun h => absurd h (by simp)⟩
  · have hlm : len ≤ m := by rw [hmm]; split <;> omega
    have hw : ∀ i, i < len → ∀ q ∈ (D i).weights P e, q ≤ reachBytes := fun i hi q hq => hm q (by
      simp only [DataW.weights, ht]
      exact List.mem_cons_of_mem _ (List.mem_append_left _ (weights_all (List.mem_map.2 ⟨i, List.mem_range.2 hi, rfl⟩) q hq)))
    have hlen : len ≤ 140737488351232 := by
      have h1 := hm _ (by simp only [DataW.weights, ht]; exact List.mem_cons_self)
      rw [reach_le] at h1
      simp only [List.length_map, List.length_range] at h1
      have := Nat.le_mul_of_pos_right (len + (m - len)) hb
      omega
    have one : ∀ i, i < len → ∃ a' : α × List Value, d.K (fun b => b < w.heap.size) w a'.1 a'.2 ∧ ∀ j u, a'.2[j]? = some u → w.cell? (a.add (i * d.sz + j)) = some u := fun i hi => by
      obtain ⟨cs', h1, h2⟩ := hx i (by omega)
      obtain ⟨y, hy⟩ := hd.2 H enc w sp held n' cs' _ h2 (hw i hi)
      obtain ⟨_, hcl, hc'⟩ := World.cells?_some h1
      refine ⟨(y, cs'), hy, fun j u hu => ?_⟩
      have hj : j < cs'.length := by
        rcases Nat.lt_or_ge j cs'.length with h | h
        · exact h
        · rw [List.getElem?_eq_none h] at hu; cases hu
      have := hc' j (by omega)
      rw [Deep.add_add, hd.1] at this
      exact this.trans hu
    rcases Nat.eq_zero_or_pos len with rfl | hpos
    · exact ⟨[], some a, cap, rfl, by simp, by simp, fun h => absurd h (by simp)⟩
    · classical
      let ys : List α := (List.range len).attach.map fun i => (Classical.choose (one i.1 (List.mem_range.1 i.2))).1
      have hy : ys.length = len := by simp [ys]
      have h0 := Classical.choose_spec (one 0 hpos)
      have hlen0 := d.len h0.1
      obtain ⟨u0, hu0⟩ : ∃ u, (Classical.choose (one 0 hpos)).2[0]? = some u := ⟨_, List.getElem?_eq_getElem (by omega)⟩
      have hc0 := h0.2 0 u0 hu0
      have ha0 : a.add (0 * d.sz + 0) = a := by simp [Addr.add]
      rw [ha0] at hc0
      have hsp := addr_plain hc0
      have hlt := World.block_lt_of_cell? w _ hc0
      obtain ⟨b, o, s⟩ := a
      simp only at hsp
      subst hsp
      refine ⟨ys, some ⟨b, o, none⟩, cap, by rw [hy], by omega, by omega, fun _ => ⟨b, o, rfl, hlt, fun i hi => ?_⟩⟩
      have hi' : i < len := by omega
      refine ⟨(Classical.choose (one i hi')).2, ?_, fun j u hu => ?_⟩
      · have : ys[i] = (Classical.choose (one i hi')).1 := by simp [ys]
        rw [this]
        exact (Classical.choose_spec (one i hi')).1
      · have h2 := (Classical.choose_spec (one i hi')).2 j u hu
        have he : (⟨b, o, none⟩ : Addr).add (i * d.sz + j) = ⟨b, o + i * d.sz + j, none⟩ := by
          unfold Addr.add
          split
          · rename_i h; simp
          · simp [Nat.add_assoc]
        rw [he] at h2
        exact h2

/-- A struct, field by field: 'fits fs off t': the fields fs from the cell off on. -/
def OpensFields {α : Type} (d : Rdr α) (P : Program) (fs : List Field) (off : Nat) : Prop :=
  ∀ (H : Type) (enc : TypeId × Value → H) (w : World) (sp : Nat → Bool) (held : Bool) (n : Nat) (cs : List Value) (xs : List (DataW H × List MemPlace)),
    cs.length = off + d.sz → xs.length = fs.length → (∀ (i : Nat) (f : Field), fs[i]? = some f → DataW.trod enc P w 0 sp held n f.type ((cs.drop f.offset).take (P.cellsOf f.type)) = xs[i]?) →
    (∀ m ∈ DataW.weightsEach P (fs.map (·.type)) (xs.map (·.1)), m ≤ reachBytes) → ∃ a, d.K (fun b => b < w.heap.size) w a (cs.drop off)

theorem opens_last {α : Type} {d : Rdr α} {P : Program} {f : Field} {off : Nat} (hd : d.Opens P f.type) (ho : f.offset = off) : OpensFields d P [f] off := by
  intro H enc w sp held n cs xs hl hx ht hm
  obtain ⟨x, rfl⟩ : ∃ x, xs = [x] := List.length_eq_one_iff.1 hx
  have h0 := ht 0 f rfl
  rw [ho, hd.1, List.take_of_length_le (by simp; omega)] at h0
  exact hd.2 H enc w sp held n _ x (by simpa using h0) (fun m hm' => hm m (by simp [DataW.weightsEach, hm']))

theorem opens_field {α β : Type} {d : Rdr α} {e : Rdr β} {P : Program} {f : Field} {fs : List Field} {off : Nat} (hd : d.Opens P f.type) (ho : f.offset = off) (he : OpensFields e P fs (off + d.sz)) : OpensFields (d.pair e) P (f :: fs) off := by
  intro H enc w sp held n cs xs hl hx ht hm
  obtain ⟨x, ys, rfl⟩ : ∃ x ys, xs = x :: ys := by cases xs with | nil => simp at hx | cons x ys => exact ⟨x, ys, rfl⟩
  have h0 := ht 0 f rfl
  rw [ho, hd.1] at h0
  obtain ⟨a, ha⟩ := hd.2 H enc w sp held n _ x (by simpa using h0) (fun m hm' => hm m (by simp [DataW.weightsEach, hm']))
  have hsz : (d.pair e).sz = d.sz + e.sz := rfl
  obtain ⟨b, hb⟩ := he H enc w sp held n cs ys (by omega) (by simpa using hx) (fun i g hg => by simpa using ht (i + 1) g (by simpa using hg)) (fun m hm' => hm m (by simp only [List.map_cons, DataW.weightsEach, List.mem_append]; exact .inr hm'))
  refine ⟨(a, b), _, _, ?_, ha, hb⟩
  rw [← List.drop_drop, List.take_append_drop]

theorem opens_struct {α : Type} {d : Rdr α} {P : Program} {t : TypeId} {fs : Array Field} (ht : P.underlying t = some (.struct fs)) (hc : P.cellsOf t = d.sz) (h : OpensFields d P fs.toList 0) : d.Opens P t := by
  refine ⟨hc, fun H enc w sp held n cs x hx hm => ?_⟩
  obtain ⟨xs, n', rfl, rfl, hl, hxl, hf⟩ := DataW.trod_struct ht hx
  have := h H enc w sp held n' cs xs (by omega) (by simpa using hxl) (fun i f hf' => hf i f (by simpa using hf')) (fun m hm' => hm m (by simp only [DataW.weights, ht]; exact hm'))
  simpa using this

theorem opens_iso {α β : Type} {d : Rdr α} {P : Program} {t : TypeId} (h : d.Opens P t) (f : β → α) (g : α → β) (hg : ∀ x, f (g x) = x) : (d.iso f).Opens P t :=
  ⟨h.1, fun H enc w sp held n cs x hx hm => by obtain ⟨a, ha⟩ := h.2 H enc w sp held n cs x hx hm; exact ⟨g a, by show d.K _ _ (f (g a)) _; rw [hg]; exact ha⟩⟩

/-! ### 4. Element i of a slice that is read -/
theorem SC.at_ {α : Type} {d : Rdr α} {F : Nat → Prop} {w : World} {A : Option Addr} {xs : List α} (h : SC d F w A xs) {i : Nat} (hi : i < xs.length) :
    ∃ b o cs, A = some ⟨b, o, none⟩ ∧ F b ∧ d.K F w xs[i] cs ∧ ∀ j u, cs[j]? = some u → w.cell? ⟨b, o + i * d.sz + j, none⟩ = some u := by
  obtain ⟨b, o, rfl, hF, h⟩ := h (by omega)
  obtain ⟨cs, hK, hc⟩ := h i hi
  exact ⟨b, o, cs, rfl, hF, hK, hc⟩

/-- .. a slice of slices. -/
theorem SC.slice_at {α : Type} {d : Rdr α} {hs : 0 < d.sz} {F : Nat → Prop} {w : World} {A : Option Addr} {xs : List (List α)} (h : SC (d.slice hs) F w A xs) {i : Nat} (hi : i < xs.length) :
    ∃ b o A' c', A = some ⟨b, o, none⟩ ∧ F b ∧ w.cell? ⟨b, o + i, none⟩ = some (.slice A' xs[i].length c') ∧ xs[i].length ≤ c' ∧ xs[i].length ≤ 140737488351232 ∧ SC d F w A' xs[i] := by
  obtain ⟨b, o, cs, rfl, hF, ⟨A', c', rfl, h1, h2, h3⟩, hc⟩ := h.at_ hi
  have := hc 0 _ rfl
  have hsz : (d.slice hs).sz = 1 := rfl
  rw [hsz, Nat.mul_one, Nat.add_zero] at this
  exact ⟨b, o, A', c', rfl, hF, this, h1, h2, h3⟩

/-- Bytes, as cells. -/
def bcells (xs : List UInt8) : List Value := xs.map fun b => .int .u8 (b.toNat : Int)
@[simp] theorem bcells_length (xs : List UInt8) : (bcells xs).length = xs.length := by simp [bcells]
theorem bcells_append (xs ys : List UInt8) : bcells (xs ++ ys) = bcells xs ++ bcells ys := by simp [bcells]
theorem bcells_get {xs : List UInt8} {i : Nat} (hi : i < xs.length) : (bcells xs)[i]? = some (.int .u8 (xs[i].toNat : Int)) := by simp [bcells, List.getElem?_eq_getElem hi]

theorem SC.byte {F : Nat → Prop} {w : World} {A : Option Addr} {xs : List UInt8} (h : SC Rdr.byte F w A xs) {i : Nat} (hi : i < xs.length) : ∃ b o, A = some ⟨b, o, none⟩ ∧ F b ∧ w.cell? ⟨b, o + i, none⟩ = some (.int .u8 (xs[i].toNat : Int)) := by
  obtain ⟨b, o, cs, rfl, hF, hK, hc⟩ := h.at_ hi
  have hK' : cs = [.int .u8 (xs[i].toNat : Int)] := hK
  subst hK'
  exact ⟨b, o, rfl, hF, by simpa [Rdr.byte] using hc 0 _ rfl⟩

theorem SC.cells {F : Nat → Prop} {w : World} {A : Option Addr} {xs : List UInt8} (h : SC Rdr.byte F w A xs) (h0 : 0 < xs.length) : ∃ b o, A = some ⟨b, o, none⟩ ∧ F b ∧ ∀ j u, (bcells xs)[j]? = some u → w.cell? ((⟨b, o, none⟩ : Addr).add j) = some u := by
  obtain ⟨b, o, rfl, hF, _⟩ := h.byte h0
  refine ⟨b, o, rfl, hF, fun j u hu => ?_⟩
  have hj : j < xs.length := by
    rcases Nat.lt_or_ge j xs.length with h | h
    · exact h
    · rw [List.getElem?_eq_none (by simpa using h)] at hu; cases hu
  obtain ⟨b', o', he, _, hc⟩ := h.byte hj
  injection he with he
  injection he with e1 e2
  subst e1 e2
  rw [bcells_get hj] at hu
  cases hu
  have : (⟨b, o, none⟩ : Addr).add j = ⟨b, o + j, none⟩ := by unfold Addr.add; split <;> simp_all
  rw [this]
  exact hc

/-! ### 5. Rows of bytes of the program's own -/
/-- v is nil or the head of a row of its own that holds xs. -/
def OB (w : World) (e : TypeId) (v : Value) (xs : List UInt8) : Prop := w.ownsRow 0 e 1 v xs.length (bcells xs)

theorem own_lt {w : World} {B e sz n : Nat} {v : Value} {xs : List Value} (h : w.ownsRow B e sz v n xs) {k : Nat} (hk : v.ownBlock = some k) : k < w.heap.size := (h.lt k hk).2

theorem own_kept {w w' : World} {B e sz n : Nat} {v : Value} {xs : List Value} (h : w.ownsRow B e sz v n xs) {M : Nat → Prop} (m : Mod M w w') (hn : ∀ k, v.ownBlock = some k → ¬ M k) : w'.ownsRow B e sz v n xs := by
  refine ⟨h.1, ?_⟩
  rcases h.2 with hv | ⟨g, cap, cur, rfl, hb, hg, rest⟩
  · exact .inl hv
  · exact .inr ⟨g, cap, cur, rfl, hb, heap_mod hg m (hn g rfl), rest⟩

theorem own_base {w : World} {B B' e sz n : Nat} {v : Value} {xs : List Value} (h : w.ownsRow B e sz v n xs) (hb : ∀ k, v.ownBlock = some k → B' ≤ k) : w.ownsRow B' e sz v n xs := by
  refine ⟨h.1, ?_⟩
  rcases h.2 with hv | ⟨g, cap, cur, rfl, _, rest⟩
  · exact .inl hv
  · exact .inr ⟨g, cap, cur, rfl, hb g rfl, rest⟩

theorem own_form {w : World} {B e sz n : Nat} {v : Value} {xs : List Value} (h : w.ownsRow B e sz v n xs) : ∃ A c, v = .slice A n c ∧ n ≤ c ∧ (A = none ∨ ∃ g, A = some ⟨g, 0, none⟩ ∧ v.ownBlock = some g) := by
  rcases h.2 with ⟨rfl, rfl⟩ | ⟨g, cap, cur, rfl, _, _, hc, _⟩
  · exact ⟨none, 0, rfl, Nat.le_refl _, .inl rfl⟩
  · exact ⟨_, cap, rfl, hc, .inr ⟨g, rfl, rfl⟩⟩

theorem own_len_max {w : World} {B e sz n : Nat} {v : Value} {xs : List Value} (h : w.ownsRow B e sz v n xs) : n ≤ maxLen := by
  rcases h.2 with ⟨rfl, rfl⟩ | ⟨g, cap, cur, rfl, _, _, hc, hm, _⟩
  · simp
  · omega

/-- What is owned reads. -/
theorem OB.reads {w : World} {e : TypeId} {v : Value} {xs : List UInt8} (h : OB w e v xs) : ∃ A c, v = .slice A xs.length c ∧ xs.length ≤ c ∧ SC Rdr.byte (fun b => v.ownBlock = some b) w A xs := by
  obtain ⟨A, c, rfl, hc, hA⟩ := own_form h
  refine ⟨A, c, rfl, hc, fun h0 => ?_⟩
  rcases hA with rfl | ⟨g, rfl, hg⟩
  · rcases h.2 with ⟨_, h1⟩ | ⟨g, cap, cur, h1, _⟩
    · omega
    · cases h1
  · refine ⟨g, 0, rfl, hg, fun i hi => ⟨_, rfl, fun j u hu => ?_⟩⟩
    have hj : j = 0 := by
      rcases Nat.eq_zero_or_pos j with h | h
      · exact h
      · rw [List.getElem?_eq_none (by simp; omega)] at hu; cases hu
    subst hj
    have hu' : u = .int .u8 (xs[i].toNat : Int) := by simpa using hu.symm
    subst hu'
    have := h.cells hg i _ (bcells_get hi)
    have ha : (⟨g, 0, none⟩ : Addr).add i = ⟨g, 0 + i * Rdr.byte.sz + 0, none⟩ := by simp [Rdr.byte, Addr.add]; omega
    rwa [ha] at this

/-- Bytes as a string's. -/
def strOf (xs : List UInt8) : ByteArray := ⟨xs.toArray⟩
theorem strOf_inj {xs ys : List UInt8} : strOf xs = strOf ys ↔ xs = ys := by
  constructor
  · intro h; have := congrArg (fun b : ByteArray => b.data.toList) h; simpa [strOf] using this
  · rintro rfl; rfl

/-! ### 6. append at the operation: onto a row of the program's own, whatever is appended -/
section
variable {P : Program} {ops : Array Oper} {rest : List Oper} {o : Oper} {a : Act} {Q : Exit → Act → World → Prop}

theorem run_append_nothing (w : World) (t ty e : TypeId) (i : TypeInfo) (ht : P.underlying t = some (.slice e)) (hi : P.info? e = some i) (B : Nat) (v : Value) (n c size : Nat) (xs : List Value) (hown : w.ownsRow B e size v n xs) :
    (Builtin.append_ #[t, t] ty #[v, .slice none 0 c]).run P w = .ok v w := by
  rcases hown.2 with ⟨rfl, hn⟩ | ⟨g, cap, cur, rfl, _, _, hnc, _⟩
  · simp [Builtin.append_, run_underlying ht, sizeOf, typeInfo, hi, Builtin.lenOf, Builtin.firstCells]
  · simp [Builtin.append_, run_underlying ht, sizeOf, typeInfo, hi, Builtin.lenOf, Builtin.firstCells, hnc, storeCells]

theorem wp_append {w : World} (hgd : o.guard = none) (s x : Operand) (t e : TypeId)
    (ho : o.op = .call { callee := .builtin .append, args := #[s, x], argTypes := #[t, t] })
    (z : Value) (size bytes : Nat) (ht : P.underlying t = some (.slice e)) (hinfo : (P.info? e).map (fun i => (i.zero, i.size, i.bytes)) = some (some z, size, bytes)) (hzs : z.cells.size = size) (hsz : 0 < size) (hb0 : 0 < bytes)
    (B : Nat) (v : Value) (n : Nat) (xs : List Value) (hs : a.eval s = v) (HO : w.ownsRow B e size v n xs)
    (A : Option Addr) (m c : Nat) (news : List Value) (hx : a.eval x = .slice A m c) (hl : news.length = m * size) (hA : A = none → m = 0) (hnews : ∀ ad, A = some ad → ∀ j u, news[j]? = some u → w.cell? (ad.add j) = some u) (h1 : ∀ u ∈ news, u.oneCell' = true)
    (hbytes : (n + m) * bytes ≤ 140737488355328) (hbase : B ≤ w.heap.size)
    (h : ∀ v' w', w'.ownsRow B e size v' (n + m) (xs ++ news) → w.grownBy w' v.ownBlock → (v'.ownBlock = v.ownBlock ∨ v'.ownBlock = some w.heap.size) → (v' = .slice none 0 0 ↔ v = .slice none 0 0 ∧ m = 0) → wpList P ops Q rest (a.put o.dst v') w') :
    wpList P ops Q (o :: rest) a w := by
  obtain ⟨i0, hi, hzz⟩ := Option.map_eq_some_iff.1 hinfo
  simp only [Prod.mk.injEq] at hzz
  obtain ⟨hz0, hz1, hz2⟩ := hzz
  have hlen : n + m ≤ 140737488355328 := Nat.le_trans (Nat.le_mul_of_pos_right _ hb0) hbytes
  rcases A with _ | ad
  · have h0 := hA rfl
    subst h0
    obtain rfl : news = [] := List.eq_nil_of_length_eq_zero (by simpa using hl)
    refine wpList_plain hgd fun K hK => ?_
    have hr := run_append_nothing (P := P) w t o.type e i0 ht hi B v n c size xs HO
    unfold Oper.wp execOp
    simp only [ho, resolve, invoke, builtin, Sem.run_bind, Sem.run_pure, Result.andThen_ok, List.map_toArray, List.map_cons, List.map_nil, hs, hx, hr]
    refine hK _ _ (h v w (by simpa using HO) (World.grownBy.refl w _) (.inl rfl) ?_)
    simp
  · exact wpList_append_own_at w hgd s x t ho B e i0 z size bytes ht hi hz0 hz1 hz2 hzs hsz v n xs hs HO ad m c news hx hl (hnews ad rfl) h1 (by simp only [maxLen]; omega) hbytes hbase
      fun v' w' h1 h2 h3 h4 => h v' w' h1 h2 h4 h3

theorem bcells_one (xs : List UInt8) : ∀ u ∈ bcells xs, u.oneCell' = true := by
  intro u hu
  obtain ⟨b, _, rfl⟩ := List.mem_map.1 hu
  rfl

/-- .. bytes that are read, onto bytes of one's own. -/
theorem wp_append_bytes {w : World} (hgd : o.guard = none) (s x : Operand) (t e : TypeId)
    (ho : o.op = .call { callee := .builtin .append, args := #[s, x], argTypes := #[t, t] })
    (ht : P.underlying t = some (.slice e)) (hinfo : (P.info? e).map (fun i => (i.zero, i.size, i.bytes)) = some (some (.int .u8 0), 1, 1))
    (B : Nat) (v : Value) (xs : List UInt8) (hs : a.eval s = v) (HO : w.ownsRow B e 1 v xs.length (bcells xs))
    (F : Nat → Prop) (A : Option Addr) (c : Nat) (ys : List UInt8) (m : Nat) (hx : a.eval x = .slice A m c) (hm : m = ys.length) (HR : SC Rdr.byte F w A ys)
    (hbytes : xs.length + ys.length ≤ 140737488355328) (hbase : B ≤ w.heap.size)
    (h : ∀ v' w', w'.ownsRow B e 1 v' (xs ++ ys).length (bcells (xs ++ ys)) → w.grownBy w' v.ownBlock → (v'.ownBlock = v.ownBlock ∨ v'.ownBlock = some w.heap.size) → (v' = .slice none 0 0 ↔ v = .slice none 0 0 ∧ ys = []) → wpList P ops Q rest (a.put o.dst v') w') :
    wpList P ops Q (o :: rest) a w := by
  subst hm
  refine wp_append (c := if A = none then c else c) hgd s x t e ho (.int .u8 0) 1 1 ht hinfo rfl (by omega) (by omega) B v xs.length (bcells xs) hs HO (if ys.length = 0 then A else A) ys.length (bcells ys) (by simpa using hx) (by simp) ?_ ?_ (bcells_one ys) (by omega) hbase ?_
  · intro hA
    rcases Nat.eq_zero_or_pos ys.length with h0 | h0
    · exact h0
    · obtain ⟨b, o', e1, _⟩ := HR h0
      simp at hA
      rw [e1] at hA
      cases hA
  · intro ad hA j u hu
    simp at hA
    have h0 : 0 < ys.length := by
      rcases Nat.lt_or_ge j (bcells ys).length with h | h
      · simp at h; omega
      · rw [List.getElem?_eq_none h] at hu; cases hu
    obtain ⟨b, o', e1, _, hc⟩ := HR.cells h0
    rw [e1] at hA
    cases hA
    exact hc j u hu
  · intro v' w' h1 h2 h3 h4
    rw [← bcells_append, ← List.length_append] at h1
    refine h v' w' h1 h2 h3 ?_
    rw [h4]
    simp [List.length_eq_zero_iff]
end

end Go.Proofs.Ytnfecdjcddidgaa
