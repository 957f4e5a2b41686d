/- The drum's method Crash: what it does to a file, and the walk's laws for its loop over the map. -/
import Derived.Test.YtnfecdjcddidgaaIndex
import Derived.Maps.RangeWalk
import Derived.Deep.CutRange
namespace Go.Proofs.Ytnfecdjcddidgaa
open Go.RowKit Go.Maps

/-- The first tail of a file. -/
def ttail (n : Int) (ts : List Tail) : Tail := (ts.find? fun t => t.file = n).getD ⟨0, 0, 0⟩
/-- How many bytes are kept. -/
def tkeep (t : Tail) (rest : List UInt8) : Nat := (max 0 (min t.keep rest.length)).toNat
/-- The last byte is turned. -/
def turned (u : UInt8) (l : List UInt8) : List UInt8 := l.modify (l.length - 1) fun x => x ^^^ u
def tkept (t : Tail) (rest : List UInt8) : List UInt8 := turned t.turn (rest.take (tkeep t rest))
def PF.crash (ts : List Tail) (f : PF) : PF := ⟨f.n, f.safe ++ tkept (ttail f.n ts) f.rest, []⟩

theorem tkeep_le (t : Tail) (rest : List UInt8) : tkeep t rest ≤ rest.length := by unfold tkeep; omega
theorem tkept_length (t : Tail) (rest : List UInt8) : (tkept t rest).length = tkeep t rest := by
  have := tkeep_le t rest
  simp [tkept, turned]; omega
theorem turned_nil (u : UInt8) : turned u [] = [] := rfl

theorem ttail_none {n : Int} {ts : List Tail} (h : tfind n ts < 0) : ttail n ts = ⟨0, 0, 0⟩ := by
  unfold tfind at h
  split at h
  · rename_i hn
    rw [List.findIdx?_eq_none_iff] at hn
    have : ts.find? (fun t => decide (t.file = n)) = none := by rw [List.find?_eq_none]; simpa using hn
    rw [ttail, this]; rfl
  · omega
theorem ttail_some {n : Int} {ts : List Tail} (h : ¬ tfind n ts < 0) : ∃ i, ∃ hi : i < ts.length, tfind n ts = i ∧ ts[i] = ttail n ts := by
  unfold tfind at h ⊢
  split at h
  · omega
  · rename_i i hn
    obtain ⟨hi, h1, h2⟩ := List.findIdx?_eq_some_iff_getElem.1 hn
    refine ⟨i, hi, rfl, ?_⟩
    have : ts.find? (fun t => decide (t.file = n)) = some ts[i] := List.find?_eq_some_iff_getElem.2 ⟨h1, i, hi, rfl, fun j hj => by simpa using h2 j hj⟩
    rw [ttail, this]; rfl

/-! ### The loop over a map of pointers -/

def mkV : Option Nat → Value
  | none => .pointer none
  | some b => .pointer (some ⟨b, 0, none⟩)
theorem Rptr_shape (v : Value) (y : DataW Unit × List MemPlace) (h : Rptr v = some y) : ∃ c, v = mkV c := by
  unfold Rptr at h
  split at h
  · exact ⟨none, rfl⟩
  · rename_i b; exact ⟨some b, rfl⟩
  · cases h

theorem pmap_mem {l : List (Int × Nat)} {n : Int} {y : DataW Unit} (h : ∀ zd, (pmap l).atKey (.int .i64 n) zd = y) : ∃ b, (n, b) ∈ l ∧ y = .lit (.int .i64 b) := by
  simp only [pmap, DataW.atKey] at h
  cases hf : (l.map fun p : Int × Nat => ((.int .i64 p.1, .lit (.int .i64 p.2)) : Lit × DataW Unit)).find? (fun p => p.1.sameKey (.int .i64 n)) with
  | none =>
    rw [hf] at h
    have h1 := h .nil
    have h2 := h (.lit (.int .i64 0))
    simp only at h1 h2
    rw [← h1] at h2
    cases h2
  | some p =>
    rw [hf] at h
    have h1 := h .nil
    simp only at h1
    have hm := List.mem_of_find?_eq_some hf
    have hp := List.find?_some hf
    obtain ⟨q, hq, rfl⟩ := List.mem_map.1 hm
    simp only [Lit.sameKey, beq_iff_eq, Bool.and_eq_true, decide_eq_true_eq] at hp
    refine ⟨q.2, ?_, h1.symm⟩
    have : q.1 = n := by simpa using hp
    rw [← this]; exact hq

section
variable {P : Program} (w : World) {ops : Array Oper} {rest : List Oper} {o : Oper} {a : Act} {Q : Exit → Act → World → Prop}
theorem wp_next_ptr (hg : o.guard = none) (it : Operand) (hop : o.op = Op.next it false) (k : TypeId) (K : Keyed P k) (hk : P.underlying k = some (.int .i64)) (b r n : Nat) (l : List (Int × Nat)) (left : Lit → Bool) (cnt : Nat)
    (hit : a.eval it = .pointer (some ⟨r, 0, none⟩)) (h : w.ranges P k Rptr b r n (pmap l) left cnt)
    (hDone : (∀ kl, left kl = false) → wpList P ops Q rest (a.put o.dst (.tuple #[.bool false])) w)
    (hMore : ∀ (x : Int) (fb : Nat) (w' : World) (cnt' : Nat), (x, fb) ∈ l → left (.int .i64 x) = true → w'.ranges P k Rptr b r n (pmap l) (fun z => left z && !z.sameKey (.int .i64 x)) cnt' → cnt' < cnt → w.grownBy w' (some r) → w'.heap.size = w.heap.size →
      (Instr.entry (.pointer (some ⟨r, 0, none⟩))).run P w' = .ok (.tuple #[.int .i64 x, .pointer (some ⟨fb, 0, none⟩)]) w' → wpList P ops Q rest (a.put o.dst (.tuple #[.bool true, .int .i64 x, .pointer (some ⟨fb, 0, none⟩)])) w') :
    wpList P ops Q (o :: rest) a w :=
  wpList_next_ranges w hg it hop k K Rptr (Value.int .i64) mkV (fun key kl hkey => by obtain ⟨x, rfl, _⟩ := Maps.keyOf_int_inv hk hkey; exact ⟨x, rfl⟩) Rptr_shape
    b r n (pmap l) left cnt hit h (fun _ => hDone) fun x c kl y w' cnt' hkey hlk hv hat hrg hlt hgr hsz hen => by
      obtain ⟨x', ex, rfl, hwx⟩ := Maps.keyOf_int_inv hk hkey
      cases ex
      obtain ⟨fb, hin, he⟩ := pmap_mem hat
      obtain ⟨y1, y2⟩ := y
      simp only at he
      subst he
      have hc := Rptr_inv hv
      cases c with
      | none => cases hc
      | some c =>
        simp only [mkV, Value.pointer.injEq, Option.some.injEq, Addr.mk.injEq] at hc
        obtain rfl := hc.1
        exact hMore x c w' cnt' hin hlk hrg hlt hgr hsz hen
end

theorem ranges_mod {P : Program} {k : TypeId} {R : Value → Option (DataW Unit × List MemPlace)} {w w' : World} {b r n cnt : Nat} {D : DataW Unit} {left : Lit → Bool} (h : w.ranges P k R b r n D left cnt) {M : Nat → Prop} (m : Mod M w w') (hb : ¬ M b) (hr : ¬ M r) : w'.ranges P k R b r n D left cnt := by
  obtain ⟨es, clock, since, seen, c0, h1, h2, h3, h4, h5, rest⟩ := h
  exact ⟨es, clock, since, seen, c0, heap_mod h1 m hb, h2, h3, h4, heap_mod h5 m hr, rest⟩
theorem mod_of_grown {w w' : World} {r : Nat} (h : w.grownBy w' (some r)) : Mod (· = r) w w' := ⟨h.os, h.tape, h.output, h.size, fun k hk hn => h.block k hk (fun e => hn (by cases e; rfl))⟩

theorem dsum_mem : ∀ {fs : List DF} {f : DF}, f ∈ fs → (f.sz : Int) ≤ dsum fs
  | [], _, h => nomatch h
  | g :: r, f, h => by
    have h1 := dsum_nonneg r
    rcases List.mem_cons.1 h with rfl | h
    · simp only [dsum]; omega
    · have := dsum_mem h; simp only [dsum]; omega
theorem Dr.fits {w : World} {d m : Nat} {fs : List DF} {s : DSt} (h : Dr w d m fs s) {f : DF} (hf : f ∈ fs) : 0 ≤ s.free ∧ s.free + (f.safe.length : Int) + f.rest.length ≤ 4194304 := by
  have h1 := h.room
  have h2 := dsum_mem hf
  simp only [DF.sz] at h2
  omega

theorem xor_u8 (x y : UInt8) : bits .xor .u8 (x.toNat : Int) (y.toNat : Int) = ((x ^^^ y).toNat : Int) := by
  have h1 : ∀ z : UInt8, BitVec.ofInt 8 (z.toNat : Int) = z.toBitVec := fun z => by
    apply BitVec.eq_of_toNat_eq
    simp [BitVec.toNat_ofInt]
  show IntKind.u8.wrap ((BitVec.ofInt 8 (x.toNat : Int) ^^^ BitVec.ofInt 8 (y.toNat : Int)).toNat : Int) = _
  rw [h1, h1]
  have h2 : (x.toBitVec ^^^ y.toBitVec).toNat = (x ^^^ y).toNat := rfl
  rw [h2]
  have := (x ^^^ y).toNat_lt
  generalize (x ^^^ y).toNat = n at this
  simp [IntKind.wrap, IntKind.bits, IntKind.signed]
  omega

theorem own_block {w : World} {B e sz n : Nat} {v : Value} {xs : List Value} (h : w.ownsRow B e sz v n xs) {b : Nat} (hb : v.ownBlock = some b) : ∃ cs, w.heap[b]? = some (.cells cs e (0, 0)) := by
  rcases h.2 with ⟨rfl, _⟩ | ⟨g, cap, cur, rfl, _, hg, _⟩
  · cases hb
  · cases hb; exact ⟨cur, hg⟩

theorem read_take {F : Nat → Prop} {w : World} {A : Option Addr} {ys : List UInt8} (h : SC Rdr.byte F w A ys) (k : Nat) : SC Rdr.byte F w A (ys.take k) := by
  intro h0
  rw [List.length_take] at h0
  obtain ⟨b, o, rfl, hF, hc⟩ := h (by omega)
  refine ⟨b, o, rfl, hF, fun i hi => ?_⟩
  rw [List.length_take] at hi
  rw [List.getElem_take]
  exact hc i (by omega)

theorem read_turned {F : Nat → Prop} {w : World} {b o j : Nat} {ys : List UInt8} {u : UInt8} (h : SC Rdr.byte F w (some ⟨b, o, none⟩) ys) (hj : j < ys.length) :
    SC Rdr.byte F (w.setCell ⟨b, o + j, none⟩ (.int .u8 ((ys[j] ^^^ u).toNat : Int))) (some ⟨b, o, none⟩) (turned u (ys.take (j + 1))) := by
  intro _
  obtain ⟨b', o', e, hF, _⟩ := h.byte hj
  cases e
  refine ⟨b, o, rfl, hF, fun i hi => ?_⟩
  have hi' : i < j + 1 := by simp only [turned, List.length_modify, List.length_take] at hi; omega
  obtain ⟨_, _, e, _, hci⟩ := h.byte (i := i) (by omega)
  cases e
  obtain ⟨_, _, e, _, hcj⟩ := h.byte hj
  cases e
  have hlen : (ys.take (j + 1)).length - 1 = j := by rw [List.length_take]; omega
  refine ⟨[.int .u8 ((turned u (ys.take (j + 1)))[i].toNat : Int)], rfl, fun q v hv => ?_⟩
  match q, hv with
  | 0, hv =>
    cases hv
    have e1 : (⟨b, o + i * Rdr.byte.sz + 0, none⟩ : Addr) = ⟨b, o + i, none⟩ := by simp [Rdr.byte]
    rw [e1]
    by_cases hij : i = j
    · subst hij
      rw [World.cell?_setCell_same _ _ _ hcj]
      congr 4
      simp only [turned, List.getElem_modify, hlen]
      simp
    · rw [World.cell?_setCell_other _ _ _ _ (by intro e; simp only [Addr.mk.injEq] at e; omega), hci]
      congr 4
      simp only [turned, List.getElem_modify, hlen, if_neg (Ne.symm hij)]
      simp
end Go.Proofs.Ytnfecdjcddidgaa
