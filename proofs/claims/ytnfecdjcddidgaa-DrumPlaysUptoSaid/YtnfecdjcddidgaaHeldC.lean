/- A region that draws its order, some cells held, walked in an order of one's own, for the drawn orders that keep some pairs. Over any program. -/
import Derived.Test.YtnfecdjcddidgaaHeldB
namespace Go.Proofs.Ytnfecdjcddidgaa

section
variable {P : Program} {ops : Array Oper} {HL : List Held} {fl : Nat → Prop}

/-- y comes ahead of x. -/
def Bef (ord : List Nat) (y x : Nat) : Prop := ∃ o1 o2, ord = o1 ++ y :: o2 ∧ x ∈ o2
theorem bef_total {ord : List Nat} {p q : Nat} (hp : p ∈ ord) (hq : q ∈ ord) (hne : p ≠ q) : Bef ord p q ∨ Bef ord q p := by
  obtain ⟨a, b, rfl⟩ := List.append_of_mem hp
  rcases List.mem_append.1 hq with h | h
  · obtain ⟨c, d, rfl⟩ := List.append_of_mem h
    exact .inr ⟨c, d ++ p :: b, by simp, by simp⟩
  · rcases List.mem_cons.1 h with h | h
    · exact absurd h.symm hne
    · exact .inl ⟨a, b, rfl, h⟩
theorem bef_tail {z : Nat} {ord : List Nat} {y x : Nat} (h : Bef (z :: ord) y x) (hy : y ≠ z) : Bef ord y x := by
  obtain ⟨o1, o2, e, hx⟩ := h
  cases o1 with
  | nil => simp only [List.nil_append, List.cons.injEq] at e; exact absurd e.1.symm hy
  | cons k r => simp only [List.cons_append, List.cons.injEq] at e; exact ⟨r, o2, e.2, hx⟩
theorem bef_head {z : Nat} {ord : List Nat} {y : Nat} (h : Bef (z :: ord) y z) (hnd : (z :: ord).Nodup) : False := by
  obtain ⟨o1, o2, e, hx⟩ := h
  cases o1 with
  | nil => simp only [List.nil_append, List.cons.injEq] at e; obtain ⟨rfl, rfl⟩ := e; exact (List.nodup_cons.1 hnd).1 hx
  | cons k r => simp only [List.cons_append, List.cons.injEq] at e; obtain ⟨rfl, rfl⟩ := e; exact (List.nodup_cons.1 hnd).1 (by simp [hx])

theorem order_steps {N : Act → World → Prop} : ∀ (ord l : List Nat) (L : Nat → Prop), ord.Nodup → l.Nodup → (∀ i, i ∈ ord ↔ i ∈ l) → Valid ops L ord → (∀ j, L j → ∀ e ∈ deps ops j, L e) → (∀ k ∈ ord, ¬ L k) →
    l.Pairwise (fun y x => Cl ops x y ∨ SwapsJ P ops HL fl y x ∨ Bef ord y x) → ∀ (a : Act) (w : World), stepsJ P ops HL fl l N a w → wpOps P ops (NF N) ord a w
  | [], l, _, _, _, hm, _, _, _, _, a, w, h => by
    obtain rfl : l = [] := List.eq_nil_iff_forall_not_mem.2 fun i hi => by simpa using (hm i).2 hi
    exact ⟨rfl, h⟩
  | x :: ord, l, L, hno, hnl, hm, hv, hdown, hdis, hp, a, w, h => by
    obtain ⟨l1, l2, rfl⟩ := List.append_of_mem ((hm x).1 (by simp))
    have h1 := List.nodup_append.1 hnl
    have hx1 : x ∉ l1 := fun hx => h1.2.2 x hx x (by simp) rfl
    have hx2 : x ∉ l2 := (List.nodup_cons.1 h1.2.1).1
    have hsw : ∀ y ∈ l1, SwapsJ P ops HL fl y x := fun y hy => by
      rcases (List.pairwise_append.1 hp).2.2 y hy x (by simp) with hc | hs | hb
      · exact absurd (hc L hdown hv.1) (hdis y ((hm y).2 (by simp [hy])))
      · exact hs
      · exact (bef_head hb hno).elim
    have hst := stepsJ_front l1 hsw a w h
    rw [wpOps_cons]
    have hno' := List.nodup_cons.1 hno
    refine qf_nf (wpOp_mono (fun a' w' hh => order_steps ord (l1 ++ l2) (fun k => L k ∨ k = x) hno'.2 (hnl.sublist (List.Sublist.append (List.Sublist.refl _) (List.sublist_cons_self _ _))) (fun i => ?_) hv.2 ?_ ?_ ?_ a' w' hh.2) hst.2.1)
    · have := hm i
      simp only [List.mem_cons, List.mem_append] at this ⊢
      constructor
      · intro hi
        rcases this.1 (.inr hi) with h | h | h
        · exact .inl h
        · subst h; exact absurd hi hno'.1
        · exact .inr h
      · intro hi
        rcases this.2 (hi.imp id .inr) with h | h
        · subst h; rcases hi with hi | hi
          · exact absurd hi hx1
          · exact absurd hi hx2
        · exact h
    · rintro j (hj | rfl) e he
      · exact .inl (hdown j hj e he)
      · exact .inl (hv.1 e he)
    · rintro k hk (h | rfl)
      · exact hdis k (by simp [hk]) h
      · exact hno'.1 hk
    · have hp' := hp.sublist (List.Sublist.append (List.Sublist.refl l1) (List.sublist_cons_self x l2))
      refine hp'.imp_of_mem fun {y z} hy _ hyz => hyz.imp id fun h => h.imp id fun h => bef_tail h fun e => ?_
      subst e
      rcases List.mem_append.1 hy with h | h
      · exact hx1 h
      · exact hx2 h

theorem lin_valid : ∀ (n t : Nat) (listed : Array Bool) (l : List Nat), l.length = n → l.Nodup → listed.size = ops.size → (∀ i, i ∈ l ↔ i < ops.size ∧ listed.getD i true = false) → Valid ops (fun k => listed.getD k false = true) l →
    (Region.linearise.go .any ops n t listed []).Nodup ∧ (∀ i, i ∈ Region.linearise.go .any ops n t listed [] ↔ i ∈ l) ∧ Valid ops (fun k => listed.getD k false = true) (Region.linearise.go .any ops n t listed []) := by
  intro n
  induction n with
  | zero =>
    intro t listed l hl _ _ _ _
    obtain rfl : l = [] := List.eq_nil_of_length_eq_zero hl
    simp [Region.linearise.go, Valid]
  | succ n ih =>
    intro t listed l hl hnd hsz hmem hv
    obtain ⟨x0, r0, e0⟩ : ∃ x r, l = x :: r := by cases l with | nil => simp at hl | cons x r => exact ⟨x, r, rfl⟩
    have hne : Region.ready .any ops listed ≠ [] := by
      subst e0
      obtain ⟨h1, h2⟩ := (hmem x0).1 (by simp)
      have := ready_of (Array.getElem?_eq_getElem h1) h2 hv.1
      intro h0; rw [h0] at this; cases this
    have hlt : t % (Region.ready .any ops listed).length < (Region.ready .any ops listed).length := Nat.mod_lt _ (List.length_pos_iff.2 hne)
    obtain ⟨x, hx⟩ : ∃ x, (Region.ready .any ops listed)[t % (Region.ready .any ops listed).length]? = some x := ⟨_, List.getElem?_eq_getElem hlt⟩
    have hxr := List.mem_of_getElem? hx
    have ego : Region.linearise.go .any ops (n + 1) t listed [] = x :: Region.linearise.go .any ops n (t / (Region.ready .any ops listed).length) (listed.setIfInBounds x true) [] := by
      simp only [Region.linearise.go]
      change (match (Region.ready .any ops listed)[t % (Region.ready .any ops listed).length]? with
        | some i => Region.linearise.go .any ops n (t / (Region.ready .any ops listed).length) (listed.setIfInBounds i true) [i]
        | none => [].reverse) = _
      rw [hx]
      simp only []
      rw [linearise_go_acc, List.reverse_singleton, List.singleton_append]
    obtain ⟨hun, o, ho, _⟩ := mem_ready.1 hxr
    have hxl := (Array.getElem?_eq_some_iff.1 ho).1
    obtain ⟨l1, l2, rfl⟩ := List.append_of_mem ((hmem x).2 ⟨hxl, hun⟩)
    have h1 := List.nodup_append.1 hnd
    have hxn : x ∉ l1 ++ l2 := by
      intro hm
      rcases List.mem_append.1 hm with hm | hm
      · exact h1.2.2 x hm x (by simp) rfl
      · exact (List.nodup_cons.1 h1.2.1).1 hm
    have hget : ∀ k, (listed.setIfInBounds x true).getD k false = true ↔ (listed.getD k false = true ∨ k = x) := fun k => by
      by_cases hk : x = k
      · subst hk
        simp [hsz, hxl]
      · rw [getD_set_ne false hk]
        simp [Ne.symm hk]
    obtain ⟨g1, g2, g3⟩ := ih (t / (Region.ready .any ops listed).length) (listed.setIfInBounds x true) (l1 ++ l2) (by simp at hl ⊢; omega) (hnd.sublist (List.Sublist.append (List.Sublist.refl _) (List.sublist_cons_self _ _))) (by simpa using hsz) (fun i => by
      by_cases hix : x = i
      · subst hix
        simp [hxn, hsz, hxl]
      · rw [getD_set_ne true hix, ← hmem i]
        simp [Ne.symm hix]) (hv.drop.mono fun k hk => (hget k).2 hk)
    rw [ego]
    refine ⟨List.nodup_cons.2 ⟨fun h => hxn ((g2 x).1 h), g1⟩, fun i => ?_, fun e he => ready_deps hxr e he, g3.mono fun k hk => (hget k).1 hk⟩
    rw [List.mem_cons, g2 i]
    simp only [List.mem_append, List.mem_cons]
    constructor
    · rintro (h | h | h) <;> simp [h]
    · rintro (h | h | h) <;> simp [h]

/-- An order that may be drawn. -/
structure Drawn (ops : Array Oper) (ord : List Nat) : Prop where
  nd : ord.Nodup
  mem : ∀ i, i ∈ ord ↔ i < ops.size
  ok : Valid ops (fun _ => False) ord

theorem wp_drawn {id : Nat} {Q : Exit → Act → World → Prop} {a : Act} {w : World} (hm : P.follows .mixedOrders = true) (hv : validB ops [] (List.range ops.size) = true)
    (h : ∀ ord, Drawn ops ord → wpOps P ops Q ord a w.drew) : (Code.region id ops true).wp P Q a w := by
  refine wp_region_draw fun t => ?_
  simp only [Region.schedule, hm, Bool.true_or, if_true]
  have hval : ∀ (l' seen : List Nat), validB ops seen l' = true → Valid ops (fun k => k ∈ seen) l' := by
    intro l'
    induction l' with
    | nil => intro _ _; trivial
    | cons x r ih =>
      intro seen hv
      simp only [validB, Bool.and_eq_true, List.all_eq_true, List.contains_iff_mem] at hv
      exact ⟨hv.1, (ih _ hv.2).mono fun k hk => by rcases List.mem_cons.1 hk with h | h <;> simp [h]⟩
  have hfalse : ∀ k, (Array.replicate ops.size false).getD k false = false := fun k => by
    rcases Nat.lt_or_ge k ops.size with h | h
    · simp [h]
    · simp [Array.getElem?_eq_none, h]
  obtain ⟨g1, g2, g3⟩ := lin_valid (ops := ops) ops.size t (Array.replicate ops.size false) (List.range ops.size) (by simp) List.nodup_range (by simp) (fun i => by
    rw [List.mem_range]
    exact ⟨fun h => ⟨h, by simp [h]⟩, fun h => h.1⟩) ((hval _ [] hv).mono fun k hk => by simp at hk)
  exact h _ ⟨g1, fun i => (g2 i).trans List.mem_range, g3.mono fun k hk => by rw [hfalse] at hk; cases hk⟩

/-! ### The walk in an order of one's own -/
def LiesI (ops : Array Oper) : List Nat → List Oper → Prop
  | [], [] => True
  | i :: r, o :: l => ops[i]? = some o ∧ LiesI ops r l
  | _, _ => False
theorem LiesI.len : ∀ {is : List Nat} {l : List Oper}, LiesI ops is l → is.length = l.length
  | [], [], _ => rfl
  | _ :: _, _ :: _, h => by simp [h.2.len]
  | [], _ :: _, h => h.elim
  | _ :: _, [], h => h.elim
theorem LiesI.take : ∀ {n : Nat} {is : List Nat} {l : List Oper}, LiesI ops is l → LiesI ops (is.take n) (l.take n)
  | 0, _, _, _ => by simp [LiesI]
  | _ + 1, [], [], _ => trivial
  | _ + 1, _ :: _, _ :: _, h => ⟨h.1, h.2.take⟩
  | _ + 1, [], _ :: _, h => h.elim
  | _ + 1, _ :: _, [], h => h.elim
theorem LiesI.drop : ∀ {n : Nat} {is : List Nat} {l : List Oper}, LiesI ops is l → LiesI ops (is.drop n) (l.drop n)
  | 0, _, _, h => by simpa using h
  | _ + 1, [], [], _ => trivial
  | n + 1, _ :: _, _ :: _, h => by simpa using h.2.drop (n := n)
  | _ + 1, [], _ :: _, h => h.elim
  | _ + 1, _ :: _, [], h => h.elim

theorem flatI : ∀ {is : List Nat} {l : List Oper} {N : Act → World → Prop} {a : Act} {w : World}, LiesI ops is l → wpList P ops (NF N) l a w → wpOps P ops (NF N) is a w
  | [], [], _, _, _, _, h => h
  | _ :: _, _ :: _, N, a, w, hl, h => by
    rw [wpOps_cons]
    exact wpOp_mono (fun a w h => flatI hl.2 h) (wpList_op hl.1 h)
  | [], _ :: _, _, _, _, h, _ => h.elim
  | _ :: _, [], _, _, _, h, _ => h.elim
theorem appendI : ∀ {is : List Nat} {s r : List Oper} {N : Act → World → Prop} {a : Act} {w : World}, LiesI ops is s → wpList P ops (NF fun a' w' => wpList P ops (NF N) r a' w') s a w → wpList P ops (NF N) (s ++ r) a w
  | [], [], _, _, _, _, _, h => h.2
  | _ :: _, _ :: _, r, N, a, w, hl, h => op_wpList hl.1 (qf_nf (wpOp_mono (fun a w h => appendI hl.2 h) (nf_qf (wpList_op hl.1 h))))
  | [], _ :: _, _, _, _, _, h, _ => h.elim
  | _ :: _, [], _, _, _, _, h, _ => h.elim
theorem monoI : ∀ {is : List Nat} {s : List Oper} {N N' : Act → World → Prop} {a : Act} {w : World}, (∀ a w, N a w → N' a w) → LiesI ops is s → wpList P ops (NF N) s a w → wpList P ops (NF N') s a w
  | [], [], _, _, _, _, hN, _, h => ⟨h.1, hN _ _ h.2⟩
  | _ :: _, _ :: _, N, N', a, w, hN, hl, h => op_wpList hl.1 (qf_nf (wpOp_mono (fun a w h => monoI hN hl.2 h) (nf_qf (wpList_op hl.1 h))))
  | [], _ :: _, _, _, _, _, _, h, _ => h.elim
  | _ :: _, [], _, _, _, _, _, h, _ => h.elim
theorem cut_flatI {J : World → Prop} {N : Act → World → Prop} : ∀ (cuts : List Nat) {is : List Nat} {l : List Oper} {a : Act} {w : World}, LiesI ops is l → wpCut P ops J N cuts l a w → wpList P ops (NF N) l a w
  | [], _, _, _, _, _, h => h
  | n :: r, is, l, a, w, hl, h => by
    have h1 : wpList P ops (NF fun a' w' => wpList P ops (NF N) (l.drop n) a' w') (l.take n) a w := monoI (fun a' w' hh => cut_flatI r hl.drop hh.2) hl.take h
    have := appendI hl.take h1
    rwa [List.take_append_drop] at this
theorem appI {N : Act → World → Prop} : ∀ (l1 l2 : List Nat) (a : Act) (w : World), wpOps P ops (NF fun a' w' => wpOps P ops (NF N) l2 a' w') l1 a w → wpOps P ops (NF N) (l1 ++ l2) a w
  | [], _, _, _, h => h.2
  | i :: r, l2, a, w, h => by
    rw [wpOps_cons] at h
    rw [List.cons_append, wpOps_cons]
    exact qf_nf (wpOp_mono (fun a w h => appI r l2 a w h) (nf_qf h))

theorem segI (hok : HeldOk P ops HL) {N : Act → World → Prop} (hN : ∀ a w, N a w → fitB ops a = true ∧ EndH HL a) {b : Bool} {rest : List Nat} {K : Act → World → Prop} {cl : Nat → Nat} (hcl : ∀ i o, ops[i]? = some o → quietC (cl i) = true → cls P o.op = 0 ∨ cls P o.op = 1) : ∀ (is : List Nat) (s : List Oper), s ≠ [] → LiesI ops is s →
    (is.dropLast.all fun i => quietC (cl i)) = true → (∀ i, is.getLast? = some i → fl i → b = true) →
    stayJ ops (is ++ rest) = true → (∀ a' w', K a' w' → wpOps P ops (NF N) rest a' w') → (∀ a' w', (b = true → JH HL w') → K a' w' → stepsJ P ops HL fl rest N a' w') →
    ∀ (a : Act) (w : World), JH HL w → wpList P ops (NF fun a' w' => (b = true → JH HL w') ∧ K a' w') s a w → stepsJ P ops HL fl (is ++ rest) N a w
  | [], [], h0, _, _, _, _, _, _, _, _, _, _ => absurd rfl h0
  | [i], [z], _, hl, _, hfl, hst, hflat, hnext, a, w, hj, h => by
    have hop := nf_qf (wpList_op hl.1 h)
    have hop' : wpOp P ops QF i (fun a' w' => (b = true → JH HL w') ∧ K a' w') a w := wpOp_mono (fun _ _ h => h.2) hop
    refine ⟨fun _ => hj, wpOp_mono (fun a' w' hh => ⟨fun hf => hh.1 (hfl i rfl hf), hnext a' w' hh.1 hh.2⟩) hop', fit_rest hok hN (w := w) hst ?_⟩
    rw [wpOps_cons]
    exact qf_nf (wpOp_mono (fun a' w' hh => hflat a' w' hh.2) hop')
  | i :: j :: is, q :: z :: s, _, hl, hq, hfl, hst, hflat, hnext, a, w, hj, h => by
    obtain ⟨h1, h2⟩ := hl
    have hop := nf_qf (wpList_op h1 h)
    have hwp : wpOps P ops (NF N) (i :: ((j :: is) ++ rest)) a w := by
      rw [wpOps_cons]
      refine qf_nf (wpOp_mono (fun a' w' hh => ?_) hop)
      exact appI _ _ _ _ (flatI h2 (monoI (fun a' w' hh => hflat a' w' hh.2) h2 hh))
    have hfit := fit_rest hok hN hst hwp
    simp only [List.dropLast_cons_cons, List.all_cons, Bool.and_eq_true] at hq
    have hqc := hcl i q h1 hq.1
    obtain ⟨v, hg, hK⟩ := wpOp_gives h1 (fun hw => hqc.elim (fun hc => quiet0 hc (hfit.1 q h1) hw) fun hc => quiet1 hc) hop
    have hst2 : stayJ ops ((j :: is) ++ rest) = true := by simp only [List.cons_append, stayJ, Bool.and_eq_true] at hst ⊢; exact hst.2
    have ih := segI hok hN hcl (j :: is) (z :: s) (by simp) h2 hq.2 (fun k hk => hfl k (by simpa using hk)) hst2 hflat hnext _ w hj hK
    exact ⟨fun _ => hj, hg.wpOp h1 ⟨fun _ => hj, ih⟩, hfit⟩
  | [], _ :: _, _, h, _, _, _, _, _, _, _, _, _ => h.elim
  | _ :: _, [], _, h, _, _, _, _, _, _, _, _, _ => h.elim
  | [_], _ :: _ :: _, _, h, _, _, _, _, _, _, _, _, _ => h.2.elim
  | _ :: _ :: _, [_], _, h, _, _, _, _, _, _, _, _, _ => h.2.elim

def cutI (cl : Nat → Nat) (n : Nat) : List Nat → List Nat → Bool
  | [], is => !is.isEmpty && (is.dropLast.all fun i => quietC (cl i)) && is.getLast? == some (n - 1)
  | c :: r, is => decide (0 < c) && decide (c < is.length) && ((is.take c).dropLast.all fun i => quietC (cl i)) && cutI cl n r (is.drop c)
theorem cut_stepsI (hok : HeldOk P ops HL) {N : Act → World → Prop} (hN : ∀ a w, N a w → fitB ops a = true ∧ EndH HL a) {cl : Nat → Nat} (hcl : ∀ i o, ops[i]? = some o → quietC (cl i) = true → cls P o.op = 0 ∨ cls P o.op = 1) :
    ∀ (cuts : List Nat) (is : List Nat) (l : List Oper), LiesI ops is l → cutI cl ops.size cuts is = true → stayJ ops is = true →
    ∀ (a : Act) (w : World), JH HL w → wpCut P ops (JH HL) N cuts l a w → stepsJ P ops HL (fun i => i + 1 < ops.size) is N a w
  | [], is, l, hl, hc, hs, a, w, hj, h => by
    simp only [cutI, Bool.and_eq_true, Bool.not_eq_true', List.isEmpty_eq_false_iff, beq_iff_eq] at hc
    have hlen := hl.len
    have hne : l ≠ [] := fun e => hc.1.1 (List.eq_nil_of_length_eq_zero (by rw [hlen, e]; rfl))
    have := segI (fl := fun i => i + 1 < ops.size) (b := false) (rest := []) (K := N) hok hN hcl is l hne hl hc.1.2 (fun i hi hf => by rw [hc.2] at hi; cases hi; omega) (by simpa using hs) (fun a' w' hh => ⟨rfl, hh⟩) (fun a' w' _ hh => hh) a w hj
      (monoI (fun a' w' hh => ⟨(fun e => by cases e), hh⟩) hl h)
    simpa using this
  | c :: r, is, l, hl, hc, hs, a, w, hj, h => by
    simp only [cutI, Bool.and_eq_true, decide_eq_true_eq] at hc
    obtain ⟨⟨⟨c1, c2⟩, c3⟩, c4⟩ := hc
    have hlen := hl.len
    have hsd : stayJ ops (is.drop c) = true := by
      have gen : ∀ (l1 l2 : List Nat), stayJ ops (l1 ++ l2) = true → stayJ ops l2 = true := by
        intro l1
        induction l1 with
        | nil => exact fun _ h => h
        | cons x r ih => intro l2 h; simp only [List.cons_append, stayJ, Bool.and_eq_true] at h; exact ih _ h.2
      exact gen (is.take c) _ (by rwa [List.take_append_drop])
    have ih := cut_stepsI hok hN hcl r (is.drop c) (l.drop c) hl.drop c4 hsd
    have := segI (fl := fun i => i + 1 < ops.size) (b := true) (rest := is.drop c) (K := wpCut P ops (JH HL) N r (l.drop c)) hok hN hcl (is.take c) (l.take c) (fun e => by have := congrArg List.length e; rw [List.length_take, List.length_nil] at this; omega) hl.take c3
      (fun _ _ _ => rfl) (by rwa [List.take_append_drop]) (fun a' w' hh => flatI hl.drop (cut_flatI r hl.drop hh)) (fun a' w' hb hh => ih a' w' (hb rfl) hh) a w hj
      (monoI (fun a' w' hh => ⟨(fun _ => hh.1), hh.2⟩) hl.take h)
    rwa [List.take_append_drop] at this

def pairE (ops : Array Oper) (cl : Nat → Nat) (E : List (Nat × Nat)) (T : List (Nat × Nat)) (y x : Nat) : Bool := E.contains (y, x) || pairJ ops cl T y x
def pairsE (ops : Array Oper) (cl : Nat → Nat) (E : List (Nat × Nat)) (T : List (Nat × Nat)) : List Nat → Bool
  | [] => true
  | y :: r => r.all (pairE ops cl E T y) && pairsE ops cl E T r
def canonE (P : Program) (ops : Array Oper) (cs cuts is : List Nat) (E : List (Nat × Nat)) (HL : List Held) : Bool :=
  let cl := fun i => cs.getD i 2
  Region.noSelect ops && (List.range ops.size).all (fun i => cl i == 2 || (cl i == 3 && HL.any (fun h => h.i == i)) || (cl i == clsAt P ops i && cl i != 3)) && pairsE ops cl E (masks ops is) is && stayJ ops is && cutI cl ops.size cuts is && heldB P ops HL && nodupB is && is.all (fun i => decide (i < ops.size)) && (List.range ops.size).all (is.contains ·)

/-- THE LAW for one drawn order. -/
theorem wp_order {Q : Exit → Act → World → Prop} {a : Act} {w : World} {l : List Oper} (cs cuts is : List Nat) (E : List (Nat × Nat)) (HL : List Held) (hlies : LiesI ops is l) (hc : canonE P ops cs cuts is E HL = true) (hj : JH HL w) {ord : List Nat} (hord : Drawn ops ord) (hE : ∀ p ∈ E, Bef ord p.1 p.2)
    (h : wpCut P ops (JH HL) (fun a' w' => (fitB ops a' = true ∧ EndH HL a') ∧ Q .normal a' w') cuts l a w) : wpOps P ops Q ord a w := by
  simp only [canonE, Bool.and_eq_true, List.all_eq_true, List.mem_range, beq_iff_eq, Bool.or_eq_true, bne_iff_ne, ne_eq, List.any_eq_true, List.contains_iff_mem, decide_eq_true_eq] at hc
  obtain ⟨⟨⟨⟨⟨⟨⟨⟨h1, h2⟩, h5⟩, h7⟩, h8⟩, h9⟩, h10⟩, h11⟩, h12⟩ := hc
  have hok := heldB_spec h9
  have hsel := Region.noSelect_spec h1
  have hc3 : ∀ i o, ops[i]? = some o → cs.getD i 2 = 3 → ∃ g ∈ HL, g.i = i := fun i o ho he => by
    rcases h2 i (Array.getElem?_eq_some_iff.1 ho).1 with (h | h) | h
    · omega
    · exact h.2
    · exact absurd he h.2
  have hcc : ∀ i o, ops[i]? = some o → cs.getD i 2 ≠ 2 → cs.getD i 2 ≠ 3 → cls P o.op = cs.getD i 2 := fun i o ho h2' h3' => by
    rcases h2 i (Array.getElem?_eq_some_iff.1 ho).1 with (h | h) | h
    · exact absurd h h2'
    · exact absurd h.1 h3'
    · have := h.1; simp only [clsAt, ho] at this; exact this.symm
  have hld : ∀ i o, ops[i]? = some o → cs.getD i 2 = 3 → cls P o.op = 1 := fun i o ho he => by
    obtain ⟨g, hg, hgi⟩ := hc3 i o ho he
    obtain ⟨o', ho', hop, _⟩ := hok g hg
    rw [hgi, ho] at ho'
    cases ho'
    rw [hop]; rfl
  have hst := cut_stepsI (cl := fun i => cs.getD i 2) hok (N := fun a' w' => (fitB ops a' = true ∧ EndH HL a') ∧ Q .normal a' w') (fun _ _ h => h.1) (fun i o ho hq => by
    simp only [quietC, Bool.or_eq_true, beq_iff_eq] at hq
    rcases hq with (hq | hq) | hq
    · exact .inl ((hcc i o ho (by rw [hq]; decide) (by rw [hq]; decide)).trans hq)
    · exact .inr ((hcc i o ho (by rw [hq]; decide) (by rw [hq]; decide)).trans hq)
    · exact .inr (hld i o ho hq)) cuts is l hlies h8 h7 a w hj h
  have hT := masks_sound (ops := ops) is
  have hsteady : ∀ i o, ops[i]? = some o → steadyC (cs.getD i 2) = true → Steady P HL i o := fun i o ho hq => by
    simp only [steadyC, Bool.or_eq_true, beq_iff_eq] at hq
    rcases hq with hq | hq
    · exact .inl ((hcc i o ho (by rw [hq]; decide) (by rw [hq]; decide)).trans hq)
    · exact .inr (hc3 i o ho hq)
  have hpair : ∀ {l' : List Nat}, pairsE ops (fun i => cs.getD i 2) E (masks ops is) l' = true → l'.Pairwise (fun y x => Cl ops x y ∨ SwapsJ P ops HL (fun i => i + 1 < ops.size) y x ∨ Bef ord y x) := by
    intro l'
    induction l' with
    | nil => intro _; exact List.Pairwise.nil
    | cons y r ih =>
      intro hp
      simp only [pairsE, Bool.and_eq_true, List.all_eq_true] at hp
      refine List.Pairwise.cons (fun x hx => ?_) (ih hp.2)
      have := hp.1 x hx
      simp only [pairE, Bool.or_eq_true, List.contains_iff_mem] at this
      rcases this with h | h
      · exact .inr (.inr (hE _ h))
      · simp only [pairJ, Bool.or_eq_true] at h
        rcases h with h | h
        · refine .inl ?_
          unfold seekT at h
          cases hf : (masks ops is).find? (fun p => p.1 == x) with
          | none => simp [hf] at h
          | some p =>
            simp only [hf, Option.map_some, Option.getD_some] at h
            have e1 := List.find?_some hf
            simp only [beq_iff_eq] at e1
            have := hT p (List.mem_of_find?_eq_some hf) y h
            rwa [e1] at this
        · rw [Bool.and_eq_true, Bool.and_eq_true] at h
          obtain ⟨⟨hfy, hfx⟩, h⟩ := h
          have hfy := of_decide_eq_true hfy
          have hfx := of_decide_eq_true hfx
          split at h
          · rename_i oy ox hy hx'
            simp only [Bool.and_eq_true, Bool.or_eq_true, beq_iff_eq] at h
            refine .inr (.inl fun K a w hh => swapJ hok hy hx' hfy hfx h.1 (hsel y oy · · hy) (hsel x ox · · hx') ?_ hh)
            rcases h.2 with (h | h) | ⟨h, h'⟩
            · exact .inl (hsteady y oy hy h)
            · exact .inr (.inl (hsteady x ox hx' h))
            · exact .inr (.inr ⟨(hcc y oy hy (by rw [h]; decide) (by rw [h]; decide)).trans h, (hcc x ox hx' (by rw [h']; decide) (by rw [h']; decide)).trans h'⟩)
          · cases h
  have := order_steps ord is (fun _ => False) hord.nd (nodupB_spec h10) (fun i => (hord.mem i).trans ⟨h12 i, h11 i⟩) hord.ok (fun _ h => h.elim) (fun _ _ h => h) (hpair h5) a w hst
  have fin : ∀ (l : List Nat) (a : Act) (w : World), wpOps P ops (NF fun a' w' => (fitB ops a' = true ∧ EndH HL a') ∧ Q .normal a' w') l a w → wpOps P ops Q l a w := by
    intro l
    induction l with
    | nil => exact fun _ _ h => h.2.2
    | cons i r ih =>
      intro a w h
      rw [wpOps_cons] at h ⊢
      exact wpOp_to (fun _ _ _ h => by cases h.1) (fun ⟨_, _, h⟩ => by cases h.1) (fun a w h => ih a w h) h
  exact fin _ _ _ this
end
end Go.Proofs.Ytnfecdjcddidgaa
