/- A region that draws its order, some cells held: the law. Over any program. -/
import Derived.Test.YtnfecdjcddidgaaHeld
namespace Go.Proofs.Ytnfecdjcddidgaa

section
variable {P : Program} {ops : Array Oper} {HL : List Held} {fl : Nat → Prop}

def SwapsJ (P : Program) (ops : Array Oper) (HL : List Held) (fl : Nat → Prop) (y x : Nat) : Prop := ∀ (K : Act → World → Prop) (a : Act) (w : World), stepJ P ops HL fl y (stepJ P ops HL fl x K) a w → stepJ P ops HL fl x (stepJ P ops HL fl y K) a w

theorem stepsJ_front {x : Nat} {l2 : List Nat} {N : Act → World → Prop} : ∀ (l1 : List Nat), (∀ y ∈ l1, SwapsJ P ops HL fl y x) → ∀ (a : Act) (w : World), stepsJ P ops HL fl (l1 ++ x :: l2) N a w → stepJ P ops HL fl x (stepsJ P ops HL fl (l1 ++ l2) N) a w
  | [], _, _, _, h => h
  | y :: r, hs, a, w, h => hs y (by simp) _ _ _ (stepJ_mono (fun a w h => stepsJ_front r (fun z hz => hs z (by simp [hz])) a w h) h)

theorem wpAny_canonJ {Q : Exit → Act → World → Prop} {N : Act → World → Prop} (hN : ∀ a w, N a w → Q .normal a w) : ∀ (n : Nat) (l : List Nat) (listed : Array Bool), l.length = n → l.Nodup → listed.size = ops.size →
    (∀ i, i ∈ l ↔ i < ops.size ∧ listed.getD i true = false) → l.Pairwise (fun y x => Cl ops x y ∨ SwapsJ P ops HL fl y x) → Valid ops (fun k => listed.getD k false = true) l →
    (∀ j, listed.getD j false = true → ∀ e ∈ deps ops j, listed.getD e false = true) → ∀ (a : Act) (w : World), stepsJ P ops HL fl l N a w → wpAny P .any ops Q n listed a w := by
  intro n
  induction n with
  | zero =>
    intro l listed hl hnd hsz hmem _ _ _ a w h
    obtain rfl : l = [] := List.eq_nil_of_length_eq_zero hl
    refine ⟨?_, hN _ _ h⟩
    cases hr : Region.ready .any ops listed with
    | nil => rfl
    | cons x xs =>
      have hx : x ∈ Region.ready .any ops listed := by rw [hr]; simp
      obtain ⟨h1, o, ho, _⟩ := mem_ready.1 hx
      have := (hmem x).2 ⟨(Array.getElem?_eq_some_iff.1 ho).1, h1⟩
      simp at this
  | succ n ih =>
    intro l listed hl hnd hsz hmem hp hv hdown a w h
    refine ⟨fun h0 => ?_, fun x hx => ?_⟩
    · obtain ⟨x, r, rfl⟩ : ∃ x r, l = x :: r := by cases l with | nil => simp at hl | cons x r => exact ⟨x, r, rfl⟩
      obtain ⟨h1, h2⟩ := (hmem x).1 (by simp)
      have := ready_of (Array.getElem?_eq_getElem h1) h2 hv.1
      rw [h0] at this
      cases this
    · obtain ⟨hun, o, ho, _⟩ := mem_ready.1 hx
      have hlt := (Array.getElem?_eq_some_iff.1 ho).1
      obtain ⟨l1, l2, rfl⟩ := List.append_of_mem ((hmem x).2 ⟨hlt, hun⟩)
      have hd := ready_deps hx
      have hsw : ∀ y ∈ l1, SwapsJ P ops HL fl y x := fun y hy => by
        rcases (List.pairwise_append.1 hp).2.2 y hy x (by simp) with hc | hs
        · exfalso
          have h1 := hc (fun k => listed.getD k false = true) hdown hd
          have h2 := ((hmem y).1 (by simp [hy])).2
          rcases Nat.lt_or_ge y listed.size with h' | h'
          · simp [h'] at h1 h2; rw [h1] at h2; cases h2
          · simp [Array.getElem?_eq_none h'] at h1
        · exact hs
      have hst := stepsJ_front l1 hsw a w h
      have hnd' : (l1 ++ l2).Nodup := hnd.sublist (List.Sublist.append (List.Sublist.refl _) (List.sublist_cons_self _ _))
      have hxn : x ∉ l1 ++ l2 := by
        have h1 := List.pairwise_append.1 hnd
        intro hm
        rcases List.mem_append.1 hm with hm | hm
        · exact h1.2.2 x hm x (by simp) rfl
        · exact (List.nodup_cons.1 h1.2.1).1 hm
      have hget : ∀ k, (listed.setIfInBounds x true).getD k false = true ↔ (listed.getD k false = true ∨ k = x) := fun k => by
        by_cases hk : x = k
        · subst hk
          simp [hsz, hlt]
        · rw [getD_set_ne false hk]
          simp [Ne.symm hk]
      refine wpOp_to (fun _ _ _ h => h.elim) (fun h => (no_out h).elim) (fun a' w' h' => ih (l1 ++ l2) _ ?_ hnd' (by simpa using hsz) ?_ ?_ ?_ ?_ a' w' h'.2) hst.2.1
      · simp at hl ⊢; omega
      · intro i
        by_cases hix : x = i
        · subst hix
          simp [hxn, hsz, hlt]
        · rw [getD_set_ne true hix, ← hmem i]
          simp [Ne.symm hix]
      · exact hp.sublist (List.Sublist.append (List.Sublist.refl _) (List.sublist_cons_self _ _))
      · exact hv.drop.mono fun k hk => (hget k).2 hk
      · intro j hj e he
        rcases (hget j).1 hj with hj | rfl
        · exact (hget e).2 (.inl (hdown j hj e he))
        · exact (hget e).2 (.inl (hd e he))

/-! ### The walk, cut behind each write -/
def wpCut (P : Program) (ops : Array Oper) (J : World → Prop) (N : Act → World → Prop) : List Nat → List Oper → Act → World → Prop
  | [], l => wpList P ops (NF N) l
  | n :: r, l => wpList P ops (NF fun a' w' => J w' ∧ wpCut P ops J N r (l.drop n) a' w') (l.take n)

def EndH : List Held → Act → Prop
  | [], _ => True
  | h :: r, a => a.eval h.x = .pointer (some h.p) ∧ EndH r a
theorem EndH.spec : ∀ {HL : List Held} {a : Act}, EndH HL a → ∀ h ∈ HL, a.eval h.x = .pointer (some h.p)
  | [], _, _, _, hm => nomatch hm
  | g :: r, a, h, k, hm => by
    rcases List.mem_cons.1 hm with rfl | hm
    · exact h.1
    · exact h.2.spec k hm

theorem wpList_op {Q : Exit → Act → World → Prop} {i : Nat} {o : Oper} {r : List Oper} {a : Act} {w : World} (hi : ops[i]? = some o) (h : wpList P ops Q (o :: r) a w) : wpOp P ops Q i (wpList P ops Q r) a w := by
  unfold wpOp
  simp only [hi]
  simp only [wpList] at h
  exact h
theorem op_wpList {Q : Exit → Act → World → Prop} {i : Nat} {o : Oper} {r : List Oper} {a : Act} {w : World} (hi : ops[i]? = some o) (h : wpOp P ops Q i (wpList P ops Q r) a w) : wpList P ops Q (o :: r) a w := by
  unfold wpOp at h
  simp only [hi] at h
  simp only [wpList]
  exact h
theorem nf_qf {N : Act → World → Prop} {i : Nat} {K : Act → World → Prop} {a : Act} {w : World} (h : wpOp P ops (NF N) i K a w) : wpOp P ops QF i K a w :=
  wpOp_to (fun _ _ _ h => by cases h.1) (fun ⟨_, _, h⟩ => by cases h.1) (fun _ _ h => h) h
theorem qf_nf {N : Act → World → Prop} {i : Nat} {K : Act → World → Prop} {a : Act} {w : World} (h : wpOp P ops QF i K a w) : wpOp P ops (NF N) i K a w :=
  wpOp_to (fun _ _ _ h => h.elim) (fun h => (no_out h).elim) (fun _ _ h => h) h

/-- l lies in ops from place off on. -/
def Lies (ops : Array Oper) (off : Nat) (l : List Oper) : Prop := ∀ k, k < l.length → ops[off + k]? = l[k]?
theorem Lies.cons {off : Nat} {o : Oper} {l : List Oper} (h : Lies ops off (o :: l)) : ops[off]? = some o ∧ Lies ops (off + 1) l :=
  ⟨by simpa using h 0 (by simp), fun k hk => by have := h (k + 1) (by simpa using hk); rw [Nat.add_assoc, Nat.add_comm 1 k]; simpa using this⟩
theorem Lies.take {off n : Nat} {l : List Oper} (h : Lies ops off l) : Lies ops off (l.take n) := fun k hk => by
  rw [List.length_take] at hk
  rw [h k (by omega), List.getElem?_take, if_pos (by omega)]
theorem Lies.drop {off n : Nat} {l : List Oper} (h : Lies ops off l) : Lies ops (off + n) (l.drop n) := fun k hk => by
  rw [List.length_drop] at hk
  rw [List.getElem?_drop, ← h (n + k) (by omega), Nat.add_assoc]

theorem flat_of : ∀ {off : Nat} {l : List Oper} {N : Act → World → Prop} {a : Act} {w : World}, Lies ops off l → wpList P ops (NF N) l a w → wpOps P ops (NF N) (List.range' off l.length) a w
  | off, [], N, a, w, _, h => h
  | off, o :: r, N, a, w, hl, h => by
    obtain ⟨h1, h2⟩ := hl.cons
    rw [List.length_cons, List.range'_succ, wpOps_cons]
    exact wpOp_mono (fun a w h => flat_of h2 h) (wpList_op h1 h)
theorem list_append : ∀ {off : Nat} {s r : List Oper} {N : Act → World → Prop} {a : Act} {w : World}, Lies ops off s → wpList P ops (NF fun a' w' => wpList P ops (NF N) r a' w') s a w → wpList P ops (NF N) (s ++ r) a w
  | off, [], r, N, a, w, _, h => h.2
  | off, o :: s, r, N, a, w, hl, h => by
    obtain ⟨h1, h2⟩ := hl.cons
    exact op_wpList h1 (qf_nf (wpOp_mono (fun a w h => list_append h2 h) (nf_qf (wpList_op h1 h))))
theorem list_mono : ∀ {off : Nat} {s : List Oper} {N N' : Act → World → Prop} {a : Act} {w : World}, (∀ a w, N a w → N' a w) → Lies ops off s → wpList P ops (NF N) s a w → wpList P ops (NF N') s a w
  | off, [], N, N', a, w, hN, _, h => ⟨h.1, hN _ _ h.2⟩
  | off, o :: s, N, N', a, w, hN, hl, h => by
    obtain ⟨h1, h2⟩ := hl.cons
    exact op_wpList h1 (qf_nf (wpOp_mono (fun a w h => list_mono hN h2 h) (nf_qf (wpList_op h1 h))))
theorem cut_flat {J : World → Prop} {N : Act → World → Prop} : ∀ (cuts : List Nat) {off : Nat} {l : List Oper} {a : Act} {w : World}, Lies ops off l → wpCut P ops J N cuts l a w → wpList P ops (NF N) l a w
  | [], _, _, _, _, _, h => h
  | n :: r, off, l, a, w, hl, h => by
    have h1 : wpList P ops (NF fun a' w' => wpList P ops (NF N) (l.drop n) a' w') (l.take n) a w := list_mono (fun a' w' hh => cut_flat r hl.drop hh.2) hl.take h
    have := list_append hl.take h1
    rwa [List.take_append_drop] at this

def isLoad : Op → Bool
  | .load .. => true
  | _ => false
def stayJ (ops : Array Oper) : List Nat → Bool
  | [] => true
  | x :: r => (match ops[x]? with
    | some o => !(asks o.op || isLoad o.op) || (x :: r).all fun j => match (ops[j]?).bind (·.dst) with | some d => !(o.looksAt ops).contains d | none => true
    | none => true) && stayJ ops r

theorem fit_rest (hok : HeldOk P ops HL) {N : Act → World → Prop} (hN : ∀ a w, N a w → fitB ops a = true ∧ EndH HL a) {i : Nat} {r : List Nat} (hs : stayJ ops (i :: r) = true) {a : Act} {w : World} (h : wpOps P ops (NF N) (i :: r) a w) :
    (∀ o, ops[i]? = some o → Fit ops a o) ∧ FitH HL a i := by
  simp only [stayJ, Bool.and_eq_true] at hs
  obtain ⟨a', w', hn, ht⟩ := wpOps_some (i :: r) a w h
  obtain ⟨hf, he⟩ := hN _ _ hn
  have key : ∀ o, ops[i]? = some o → (asks o.op || isLoad o.op) = true → ∀ t, t ∈ o.looksAt ops → a'.tmps[t]? = a.tmps[t]? := fun o ho ha t htl => ht t fun ⟨j, hj, hd⟩ => by
    have h1 := hs.1
    simp only [ho, ha, Bool.not_true, Bool.false_or, List.all_eq_true] at h1
    have := h1 j hj
    rw [hd] at this
    simp [htl] at this
  have kev : ∀ o, ops[i]? = some o → (asks o.op || isLoad o.op) = true → ∀ x ∈ o.op.operands, a'.eval x = a.eval x := fun o ho ha x hx => by
    cases x with
    | tmp t =>
      have := key o ho ha t (List.mem_append_left _ (List.mem_filterMap.2 ⟨.tmp t, by simpa using hx, rfl⟩))
      simp [Act.eval, this]
    | _ => rfl
  refine ⟨fun o ho hw => ?_, fun g hg hgi => ?_⟩
  · cases ha : asks o.op with
    | false => exact fit_of_not_asks ha _
    | true =>
      have hoff := key o ho (by simp [ha])
      have hwa : Region.wanted o (yielded ops a'.tmps) = Region.wanted o (yielded ops a.tmps) := by
        unfold Region.wanted
        cases hg : o.guard with
        | none => rfl
        | some gw =>
          obtain ⟨g, want⟩ := gw
          have hy : yielded ops a'.tmps g = yielded ops a.tmps g := by
            unfold yielded
            cases hb : (ops[g]?).bind (·.dst) with
            | none => rfl
            | some t =>
              have := hoff t (by simp [Oper.looksAt, hg, hb])
              simp [this]
          simp only [hy]
      have hf := Array.all_eq_true_iff_forall_mem.1 hf o (Array.mem_of_getElem? ho)
      rw [hwa, hw, ha] at hf
      simp at hf
      rw [← fitV_congr o.op (kev o ho (by simp [ha]))]
      exact hf
  · obtain ⟨o, ho, hop, _⟩ := hok g hg
    rw [hgi] at ho
    rw [← kev o ho (by simp [hop, isLoad]) g.x (by rw [hop]; simp [Op.operands])]
    exact he.spec g hg

/-- One part: its last operation may write. -/
theorem seg_steps (hok : HeldOk P ops HL) {N : Act → World → Prop} (hN : ∀ a w, N a w → fitB ops a = true ∧ EndH HL a) {b : Bool} {m : Nat} {K : Act → World → Prop} : ∀ (s : List Oper) (off : Nat), s ≠ [] → Lies ops off s →
    (∀ k, k + 1 < s.length → ∀ o, ops[off + k]? = some o → cls P o.op = 0 ∨ cls P o.op = 1) → (∀ k, k < s.length → fl (off + k) → k + 1 < s.length ∨ b = true) →
    stayJ ops (List.range' off (s.length + m)) = true →
    (∀ a' w', K a' w' → wpOps P ops (NF N) (List.range' (off + s.length) m) a' w') → (∀ a' w', (b = true → JH HL w') → K a' w' → stepsJ P ops HL fl (List.range' (off + s.length) m) N a' w') →
    ∀ (a : Act) (w : World), JH HL w → wpList P ops (NF fun a' w' => (b = true → JH HL w') ∧ K a' w') s a w → stepsJ P ops HL fl (List.range' off (s.length + m)) N a w
  | [], _, h0, _, _, _, _, _, _, _, _, _, _ => absurd rfl h0
  | [z], off, _, hl, _, hfl, hst, hflat, hnext, a, w, hj, h => by
    obtain ⟨h1, _⟩ := hl.cons
    rw [show [z].length + m = m + 1 from by simp; omega, List.range'_succ] at hst ⊢
    have hop := nf_qf (wpList_op h1 h)
    have hop' : wpOp P ops QF off (fun a' w' => (b = true → JH HL w') ∧ K a' w') a w := wpOp_mono (fun _ _ h => h.2) hop
    refine ⟨fun _ => hj, wpOp_mono (fun a' w' hh => ⟨fun hf => ?_, hnext a' w' hh.1 hh.2⟩) hop', fit_rest hok hN (w := w) hst ?_⟩
    · rcases hfl 0 (by simp) hf with h | h
      · simp at h
      · exact hh.1 h
    · rw [wpOps_cons]
      exact qf_nf (wpOp_mono (fun a' w' hh => hflat a' w' hh.2) hop')
  | q :: z :: s, off, _, hl, hq, hfl, hst, hflat, hnext, a, w, hj, h => by
    obtain ⟨h1, h2⟩ := hl.cons
    have elen : (q :: z :: s).length + m = ((z :: s).length + m) + 1 := by simp only [List.length_cons]; omega
    have eoff : off + (q :: z :: s).length = off + 1 + (z :: s).length := by simp only [List.length_cons]; omega
    rw [eoff] at hflat hnext
    rw [elen, List.range'_succ] at hst ⊢
    have hop := nf_qf (wpList_op h1 h)
    have hwp : wpOps P ops (NF N) (off :: List.range' (off + 1) ((z :: s).length + m)) a w := by
      rw [wpOps_cons]
      refine qf_nf (wpOp_mono (fun a' w' hh => ?_) hop)
      have h3 : wpList P ops (NF fun a' w' => wpOps P ops (NF N) (List.range' (off + 1 + (z :: s).length) m) a' w') (z :: s) a' w' := list_mono (fun a' w' hh => hflat a' w' hh.2) h2 hh
      have h4 := flat_of h2 h3
      have app : ∀ (l1 l2 : List Nat) (a : Act) (w : World), wpOps P ops (NF fun a' w' => wpOps P ops (NF N) l2 a' w') l1 a w → wpOps P ops (NF N) (l1 ++ l2) a w := by
        intro l1
        induction l1 with
        | nil => intro l2 a w h; exact h.2
        | cons i r ih =>
          intro l2 a w h
          rw [wpOps_cons] at h
          rw [List.cons_append, wpOps_cons]
          exact qf_nf (wpOp_mono (fun a w h => ih l2 a w h) (nf_qf h))
      have h5 := app _ _ _ _ h4
      rwa [List.range'_append_1] at h5
    have hfit := fit_rest hok hN hst hwp
    have hqc := hq 0 (by simp) q (by simpa using h1)
    obtain ⟨v, hg, hK⟩ := wpOp_gives h1 (fun hw => hqc.elim (fun hc => quiet0 hc (hfit.1 q h1) hw) fun hc => quiet1 hc) hop
    have hst2 : stayJ ops (List.range' (off + 1) ((z :: s).length + m)) = true := by simp only [stayJ, Bool.and_eq_true] at hst; exact hst.2
    have ih := seg_steps hok hN (z :: s) (off + 1) (by simp) h2 (fun k hk o ho => hq (k + 1) (by simpa using hk) o (by rw [← ho]; congr 1; omega)) (fun k hk hf => by
      rcases hfl (k + 1) (by simpa using hk) (by rw [← Nat.add_assoc, Nat.add_right_comm]; exact hf) with h | h
      · exact .inl (by simpa using h)
      · exact .inr h) hst2 hflat hnext _ w hj hK
    exact ⟨fun _ => hj, hg.wpOp h1 ⟨fun _ => hj, ih⟩, hfit⟩

/-! ### The law -/
def quietC (c : Nat) : Bool := c == 0 || c == 1 || c == 3
def cutB (cl : Nat → Nat) : List Nat → Nat → Nat → Bool
  | [], off, n => decide (off < n) && (List.range' off (n - 1 - off)).all fun i => quietC (cl i)
  | c :: r, off, n => decide (0 < c) && decide (off + c < n) && ((List.range' off (c - 1)).all fun i => quietC (cl i)) && cutB cl r (off + c) n
def steadyC (c : Nat) : Bool := c == 0 || c == 3
def pairJ (ops : Array Oper) (cl : Nat → Nat) (T : List (Nat × Nat)) (y x : Nat) : Bool :=
  (seekT T x).testBit y || (decide (y + 1 < ops.size) && decide (x + 1 < ops.size) &&
  match ops[y]?, ops[x]? with
  | some oy, some ox => oy.apart ops ox && (steadyC (cl y) || steadyC (cl x) || (cl y == 1 && cl x == 1))
  | _, _ => false)
def pairsJ (ops : Array Oper) (cl : Nat → Nat) (T : List (Nat × Nat)) : List Nat → Bool
  | [] => true
  | y :: r => r.all (pairJ ops cl T y) && pairsJ ops cl T r
def heldB (P : Program) (ops : Array Oper) (HL : List Held) : Bool := HL.all fun h => match ops[h.i]?, h.x with
  | some o, .tmp k => (match o.op with | .load t (.tmp k') => t == h.t && k == k' && plainB P t | _ => false)
  | _, _ => false
def canonJ (P : Program) (ops : Array Oper) (cs cuts : List Nat) (HL : List Held) : Bool :=
  let cl := fun i => cs.getD i 2
  Region.noSelect ops && (List.range ops.size).all (fun i => cl i == 2 || (cl i == 3 && HL.any (fun h => h.i == i)) || (cl i == clsAt P ops i && cl i != 3)) && pairsJ ops cl (masks ops (List.range ops.size)) (List.range ops.size) && validB ops [] (List.range ops.size) && stayJ ops (List.range ops.size) && cutB cl cuts 0 ops.size && heldB P ops HL

theorem heldB_spec (h : heldB P ops HL = true) : HeldOk P ops HL := by
  intro g hg
  have := List.all_eq_true.1 h g hg
  obtain ⟨i, t, x, p, v⟩ := g
  dsimp only at this ⊢
  cases ho : ops[i]? with
  | none => simp [ho] at this
  | some o =>
    cases x with
    | tmp k =>
      simp only [ho] at this
      split at this
      · rename_i t' k' hop
        simp only [Bool.and_eq_true, beq_iff_eq] at this
        obtain ⟨⟨e1, e2⟩, h3⟩ := this
        exact ⟨o, rfl, by rw [hop, e1, e2], by rw [← e1]; exact h3⟩
      · cases this
    | _ => simp [ho] at this

theorem cut_steps (hok : HeldOk P ops HL) {N : Act → World → Prop} (hN : ∀ a w, N a w → fitB ops a = true ∧ EndH HL a) {cl : Nat → Nat} (hcl : ∀ i o, ops[i]? = some o → quietC (cl i) = true → cls P o.op = 0 ∨ cls P o.op = 1) :
    ∀ (cuts : List Nat) (off : Nat) (l : List Oper), Lies ops off l → off + l.length = ops.size → cutB cl cuts off ops.size = true → stayJ ops (List.range' off l.length) = true →
    ∀ (a : Act) (w : World), JH HL w → wpCut P ops (JH HL) N cuts l a w → stepsJ P ops HL (fun i => i + 1 < ops.size) (List.range' off l.length) N a w
  | [], off, l, hl, hn, hc, hs, a, w, hj, h => by
    simp only [cutB, Bool.and_eq_true, decide_eq_true_eq, List.all_eq_true, List.mem_range'_1] at hc
    have hne : l ≠ [] := fun e => by subst e; simp at hn; omega
    have := seg_steps (fl := fun i => i + 1 < ops.size) (b := false) (m := 0) (K := N) hok hN l off hne hl (fun k hk o ho => hcl _ o ho (hc.2 _ ⟨by omega, by omega⟩)) (fun k _ hf => .inl (by omega)) hs (fun a' w' hh => ⟨rfl, hh⟩) (fun a' w' _ hh => hh) a w hj
      (list_mono (fun a' w' hh => ⟨(fun e => by cases e), hh⟩) hl h)
    simpa using this
  | c :: r, off, l, hl, hn, hc, hs, a, w, hj, h => by
    simp only [cutB, Bool.and_eq_true, decide_eq_true_eq, List.all_eq_true, List.mem_range'_1] at hc
    obtain ⟨⟨⟨c1, c2⟩, c3⟩, c4⟩ := hc
    have hlt : (l.take c).length = c := by rw [List.length_take]; omega
    have hld : (l.drop c).length = l.length - c := List.length_drop
    have hsum : c + (l.drop c).length = l.length := by rw [hld]; omega
    have hsd : stayJ ops (List.range' (off + c) (l.drop c).length) = true := by
      have gen : ∀ (l1 l2 : List Nat), stayJ ops (l1 ++ l2) = true → stayJ ops l2 = true := by
        intro l1
        induction l1 with
        | nil => exact fun _ h => h
        | cons x r ih => intro l2 h; simp only [List.cons_append, stayJ, Bool.and_eq_true] at h; exact ih _ h.2
      refine gen (List.range' off c) _ ?_
      rwa [List.range'_append_1, hsum]
    have ih := cut_steps hok hN hcl r (off + c) (l.drop c) hl.drop (by omega) c4 hsd
    have := seg_steps (fl := fun i => i + 1 < ops.size) (b := true) (m := (l.drop c).length) (K := wpCut P ops (JH HL) N r (l.drop c)) hok hN (l.take c) off (fun e => by rw [e] at hlt; simp at hlt; omega) hl.take
      (fun k hk o ho => hcl _ o ho (c3 _ ⟨by omega, by omega⟩)) (fun k _ _ => .inr rfl) (by rw [hlt, hsum]; exact hs)
      (fun a' w' hh => by rw [hlt]; exact flat_of hl.drop (cut_flat r hl.drop hh)) (fun a' w' hb hh => by rw [hlt]; exact ih a' w' (hb rfl) hh) a w hj
      (list_mono (fun a' w' hh => ⟨fun _ => hh.1, hh.2⟩) hl.take h)
    rwa [hlt, hsum] at this

/-- THE LAW: the region's cells HL are held until its last operation; the walk is cut behind each write ('cuts': the lengths of the parts but the last). -/
theorem wp_held_ops {id : Nat} {Q : Exit → Act → World → Prop} {a : Act} {w : World} {l : List Oper} (cs cuts : List Nat) (HL : List Held) (hlies : Lies ops 0 l) (hsz : ops.size = l.length) (hm : P.follows .mixedOrders = true) (hc : canonJ P ops cs cuts HL = true) (hj : JH HL w)
    (h : wpCut P ops (JH HL) (fun a' w' => (fitB ops a' = true ∧ EndH HL a') ∧ Q .normal a' w') cuts l a w.drew) : (Code.region id ops true).wp P Q a w := by
  refine wp_region_any hm ?_
  simp only [canonJ, Bool.and_eq_true, List.all_eq_true, List.mem_range, beq_iff_eq, Bool.or_eq_true, bne_iff_ne, ne_eq, List.any_eq_true] at hc
  obtain ⟨⟨⟨⟨⟨⟨h1, h2⟩, h5⟩, h6⟩, h7⟩, h8⟩, h9⟩ := hc
  have hok := heldB_spec h9
  have hsel := Region.noSelect_spec h1
  have hc3 : ∀ i o, ops[i]? = some o → cs.getD i 2 = 3 → ∃ g ∈ HL, g.i = i := fun i o ho he => by
    rcases h2 i (Array.getElem?_eq_some_iff.1 ho).1 with (h | h) | h
    · omega
    · exact h.2
    · exact absurd he h.2
  have hcc : ∀ i o, ops[i]? = some o → cs.getD i 2 ≠ 2 → cs.getD i 2 ≠ 3 → cls P o.op = cs.getD i 2 := fun i o ho h2' h3' => by
    rcases h2 i (Array.getElem?_eq_some_iff.1 ho).1 with (h | h) | h
    · exact absurd h h2'
    · exact absurd h.1 h3'
    · have := h.1; simp only [clsAt, ho] at this; exact this.symm
  have hld : ∀ i o, ops[i]? = some o → cs.getD i 2 = 3 → cls P o.op = 1 := fun i o ho he => by
    obtain ⟨g, hg, hgi⟩ := hc3 i o ho he
    obtain ⟨o', ho', hop, _⟩ := hok g hg
    rw [hgi, ho] at ho'
    cases ho'
    rw [hop]; rfl
  have hst := cut_steps (cl := fun i => cs.getD i 2) hok (N := fun a' w' => (fitB ops a' = true ∧ EndH HL a') ∧ Q .normal a' w') (fun _ _ h => h.1) (fun i o ho hq => by
    simp only [quietC, Bool.or_eq_true, beq_iff_eq] at hq
    rcases hq with (hq | hq) | hq
    · exact .inl ((hcc i o ho (by rw [hq]; decide) (by rw [hq]; decide)).trans hq)
    · exact .inr ((hcc i o ho (by rw [hq]; decide) (by rw [hq]; decide)).trans hq)
    · exact .inr (hld i o ho hq)) cuts 0 l hlies (by omega) h8 (by rw [← List.range_eq_range', ← hsz]; exact h7) a w.drew hj h
  rw [← List.range_eq_range', ← hsz] at hst
  have hT := masks_sound (ops := ops) (List.range ops.size)
  have hsteady : ∀ i o, ops[i]? = some o → steadyC (cs.getD i 2) = true → Steady P HL i o := fun i o ho hq => by
    simp only [steadyC, Bool.or_eq_true, beq_iff_eq] at hq
    rcases hq with hq | hq
    · exact .inl ((hcc i o ho (by rw [hq]; decide) (by rw [hq]; decide)).trans hq)
    · exact .inr (hc3 i o ho hq)
  have hpair : ∀ {l' : List Nat}, pairsJ ops (fun i => cs.getD i 2) (masks ops (List.range ops.size)) l' = true → l'.Pairwise (fun y x => Cl ops x y ∨ SwapsJ P ops HL (fun i => i + 1 < ops.size) y x) := by
    intro l'
    induction l' with
    | nil => intro _; exact List.Pairwise.nil
    | cons y r ih =>
      intro hp
      simp only [pairsJ, Bool.and_eq_true, List.all_eq_true] at hp
      refine List.Pairwise.cons (fun x hx => ?_) (ih hp.2)
      have := hp.1 x hx
      simp only [pairJ, Bool.or_eq_true] at this
      rcases this with h | h
      · refine .inl ?_
        unfold seekT at h
        cases hf : (masks ops (List.range ops.size)).find? (fun p => p.1 == x) with
        | none => simp [hf] at h
        | some p =>
          simp only [hf, Option.map_some, Option.getD_some] at h
          have e1 := List.find?_some hf
          simp only [beq_iff_eq] at e1
          have := hT p (List.mem_of_find?_eq_some hf) y h
          rwa [e1] at this
      · rw [Bool.and_eq_true, Bool.and_eq_true] at h
        obtain ⟨⟨hfy, hfx⟩, h⟩ := h
        have hfy := of_decide_eq_true hfy
        have hfx := of_decide_eq_true hfx
        split at h
        · rename_i oy ox hy hx'
          simp only [Bool.and_eq_true, Bool.or_eq_true, beq_iff_eq] at h
          refine .inr fun K a w hh => swapJ hok hy hx' hfy hfx h.1 (hsel y oy · · hy) (hsel x ox · · hx') ?_ hh
          rcases h.2 with (h | h) | ⟨h, h'⟩
          · exact .inl (hsteady y oy hy h)
          · exact .inr (.inl (hsteady x ox hx' h))
          · exact .inr (.inr ⟨(hcc y oy hy (by rw [h]; decide) (by rw [h]; decide)).trans h, (hcc x ox hx' (by rw [h']; decide) (by rw [h']; decide)).trans h'⟩)
        · cases h
  have hval : ∀ (l' seen : List Nat), validB ops seen l' = true → Valid ops (fun k => k ∈ seen) l' := by
    intro l'
    induction l' with
    | nil => intro _ _; trivial
    | cons x r ih =>
      intro seen hv
      simp only [validB, Bool.and_eq_true, List.all_eq_true, List.contains_iff_mem] at hv
      exact ⟨hv.1, (ih _ hv.2).mono fun k hk => by rcases List.mem_cons.1 hk with h | h <;> simp [h]⟩
  have hfalse : ∀ k, (Array.replicate ops.size false).getD k false = false := fun k => by
    rcases Nat.lt_or_ge k ops.size with h | h
    · simp [h]
    · simp [Array.getElem?_eq_none, h]
  refine wpAny_canonJ (HL := HL) (fl := fun i => i + 1 < ops.size) (fun _ _ h => h.2) ops.size (List.range ops.size) _ (by simp) List.nodup_range (by simp) (fun i => ?_) (hpair h5) ((hval _ [] h6).mono fun k hk => by simp at hk) (fun j hj => by rw [hfalse] at hj; cases hj) a _ hst
  rw [List.mem_range]
  constructor
  · intro h; exact ⟨h, by simp [h]⟩
  · exact fun h => h.1
theorem wp_held {id : Nat} {Q : Exit → Act → World → Prop} {a : Act} {w : World} {l : List Oper} (cs cuts : List Nat) (HL : List Held) (hm : P.follows .mixedOrders = true) (hc : canonJ P l.toArray cs cuts HL = true) (hj : JH HL w)
    (h : wpCut P l.toArray (JH HL) (fun a' w' => (fitB l.toArray a' = true ∧ EndH HL a') ∧ Q .normal a' w') cuts l a w.drew) : (Code.region id l.toArray true).wp P Q a w :=
  wp_held_ops cs cuts HL (fun k _ => by simp) (by simp) hm hc hj h
theorem nf_cut {J : World → Prop} {N : Act → World → Prop} {a : Act} {w : World} (h1 : J w) (h2 : N a w) : NF (fun a' w' => J w' ∧ N a' w') .normal a w := ⟨rfl, h1, h2⟩
theorem nf_last {N : Act → World → Prop} {a : Act} {w : World} (h1 : fitB ops a = true) (h3 : EndH HL a) (h2 : N a w) : NF (fun a' w' => (fitB ops a' = true ∧ EndH HL a') ∧ N a' w') .normal a w := ⟨rfl, ⟨h1, h3⟩, h2⟩
theorem JH.one {w : World} {i1 : Nat} {t1 : TypeId} {x1 : Operand} {p1 : Addr} {v1 : Value} (h1 : w.cell? p1 = some v1) : JH [⟨i1, t1, x1, p1, v1⟩] w := by
  intro h hh; cases List.mem_singleton.1 hh; exact h1
theorem JH.cons {w : World} {i1 : Nat} {t1 : TypeId} {x1 : Operand} {p1 : Addr} {v1 : Value} {r : List Held} (h1 : w.cell? p1 = some v1) (h : JH r w) : JH (⟨i1, t1, x1, p1, v1⟩ :: r) w := by
  intro g hg
  rcases List.mem_cons.1 hg with rfl | hg
  · exact h1
  · exact h g hg
end
end Go.Proofs.Ytnfecdjcddidgaa
