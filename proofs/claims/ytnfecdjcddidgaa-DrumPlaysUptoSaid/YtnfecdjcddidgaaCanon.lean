/- A region that draws its order is walked once, in one order: the commuting of operations. Over any program. -/
import Derived.Test.YtnfecdjcddidgaaOrder
namespace Go.Proofs.Ytnfecdjcddidgaa

def QF : Exit → Act → World → Prop := fun _ _ _ => False

section
variable {P : Program} {ops : Array Oper}

theorem wpOp_to {Q Q' : Exit → Act → World → Prop} (hp : ∀ c a w, Q (.panic c) a w → Q' (.panic c) a w) (ho : LetsOut Q → LetsOut Q') {i : Nat} {K K' : Act → World → Prop} (hK : ∀ a w, K a w → K' a w) {a : Act} {w : World}
    (h : wpOp P ops Q i K a w) : wpOp P ops Q' i K' a w := by
  unfold wpOp at *
  split
  · rename_i h0; simp only [h0] at h; exact hK _ _ h
  · rename_i o h0
    simp only [h0] at h
    split
    · rename_i hw
      simp only [hw, if_true] at h
      rcases h with h | ⟨h1, h2⟩
      · refine .inl ?_
        unfold Oper.wp at *
        generalize (execOp a.eval o).run P w = r at *
        cases r with
        | ok n w' =>
          cases n <;> simp only [Oper.upon] at h ⊢ <;> first
            | exact hK _ _ h
            | exact h
            | (exact Calls.mono h fun e w'' he => by cases e <;> first | exact hK _ _ he | exact hp _ _ _ he | exact ho he)
            | exact Rows.mono h fun _ _ he => hK _ _ he
        | halt x w' => cases x <;> simp only [Oper.upon] at h ⊢ <;> first | exact hp _ _ _ h | exact h
      · exact .inr ⟨h1, ho h2⟩
    · rename_i hw; simp only [hw] at h; exact hK _ _ h

theorem no_out : ¬ LetsOut QF := fun ⟨_, _, h⟩ => h

/-- What follows is reached with the operation's slot written, and no other. -/
theorem wpOp_track {Q : Exit → Act → World → Prop} {i : Nat} {o : Oper} (hi : ops[i]? = some o) {K : Act → World → Prop} {a : Act} {w : World} (h : wpOp P ops Q i K a w) :
    wpOp P ops Q i (fun a' w' => K a' w' ∧ ∃ v, a'.tmps = (a.put o.dst v).tmps) a w := by
  unfold wpOp at *
  simp only [hi] at *
  split
  · rename_i hw
    simp only [hw, if_true] at h
    rcases h with h | h
    · refine .inl ?_
      unfold Oper.wp at *
      generalize (execOp a.eval o).run P w = r at *
      cases r with
      | ok n w' =>
        cases n <;> simp only [Oper.upon] at h ⊢ <;> first
          | exact ⟨h, _, rfl⟩
          | exact h
          | (refine ⟨h, undef, ?_⟩; cases o.dst <;> rfl)
          | (exact Calls.mono h fun e w'' he => by cases e <;> first | exact ⟨he, _, rfl⟩ | exact he)
          | exact Rows.mono h fun _ _ he => ⟨he, _, rfl⟩
      | halt x w' => cases x <;> simp only [Oper.upon] at h ⊢ <;> exact h
    · exact .inr h
  · rename_i hw; simp only [hw] at h; exact ⟨h, _, rfl⟩

theorem calls_never {f : FuncId} {args : Array Value} {w : World} (h : Calls P f args w fun _ _ => False) : False := by
  obtain ⟨_, _, _, h, _⟩ := h []
  exact h

theorem wpOp_some {i : Nat} {K : Act → World → Prop} {a : Act} {w : World} (h : wpOp P ops QF i K a w) : ∃ a' w', K a' w' := by
  classical
  refine Classical.byContradiction fun hn => ?_
  have hK : ∀ a' w', K a' w' → False := fun a' w' hk => hn ⟨a', w', hk⟩
  unfold wpOp at h
  split at h
  · exact hK _ _ h
  · rename_i o h0
    split at h
    · rcases h with h | h
      · unfold Oper.wp at h
        generalize (execOp a.eval o).run P w = r at h
        cases r with
        | ok n w' =>
          cases n <;> simp only [Oper.upon] at h <;> first
            | exact hK _ _ h
            | exact h
            | exact calls_never (Calls.mono h fun e w'' he => by cases e <;> first | exact hK _ _ he | exact he | exact no_out he)
            | (obtain ⟨v, w1, hr, _⟩ := h default []; exact hK _ _ hr)
        | halt x w' => cases x <;> simp only [Oper.upon] at h <;> exact h
      · exact no_out h.2
    · exact hK _ _ h

/-! ### One step with what is asked of the operands -/
def asks : Op → Bool
  | .binOp .. | .convert .. | .nilCheck _ | .call { callee := .builtin .min, .. } | .call { callee := .builtin .max, .. } => true
  | _ => false
theorem fit_of_not_asks {op : Op} (h : asks op = false) (ρ : Operand → Value) : fitV op ρ = true := by
  unfold fitV
  split <;> first | rfl | (simp [asks] at h; done)

def Fit (ops : Array Oper) (a : Act) (o : Oper) : Prop := Region.wanted o (yielded ops a.tmps) = true → fitV o.op a.eval = true

def stepF (P : Program) (ops : Array Oper) (i : Nat) (K : Act → World → Prop) (a : Act) (w : World) : Prop :=
  wpOp P ops QF i K a w ∧ ∀ o, ops[i]? = some o → Fit ops a o
def stepsF (P : Program) (ops : Array Oper) : List Nat → (Act → World → Prop) → Act → World → Prop
  | [], K => K
  | i :: r, K => stepF P ops i (stepsF P ops r K)

theorem stepF_mono {i : Nat} {K K' : Act → World → Prop} (h : ∀ a w, K a w → K' a w) {a : Act} {w : World} (hs : stepF P ops i K a w) : stepF P ops i K' a w := ⟨wpOp_mono h hs.1, hs.2⟩

theorem eval_tmps {a a' : Act} (h : a.tmps = a'.tmps) : a.eval = a'.eval := by
  funext x
  cases x <;> simp [Act.eval, h]

/-- d lies in nothing that o looks at. -/
def Off (ops : Array Oper) (d : Option Tmp) (o : Oper) : Prop := ∀ t, d = some t → t ∉ o.looksAt ops

theorem fitV_congr {ρ ρ' : Operand → Value} (op : Op) (h : ∀ x ∈ op.operands, ρ x = ρ' x) : fitV op ρ = fitV op ρ' := by
  cases op <;> simp only [Op.operands] at h <;> simp only [fitV]
  case binOp o t x y yt => rw [h x (by simp), h y (by simp)]
  case convert s t x => rw [h x (by simp)]
  case nilCheck x => rw [h x (by simp)]
  case call c =>
    obtain ⟨callee, args, ts⟩ := c
    cases callee with
    | builtin b =>
      have he : args.all (fun x => isInt (ρ x)) = args.all (fun x => isInt (ρ' x)) := by
        rw [Bool.eq_iff_iff, Array.all_eq_true_iff_forall_mem, Array.all_eq_true_iff_forall_mem]
        constructor
        · intro g x hx; rw [← h x (by simp [Call.operands, hx])]; exact g x hx
        · intro g x hx; rw [h x (by simp [Call.operands, hx])]; exact g x hx
      cases b <;> first | rfl | exact he
    | _ => rfl

theorem Fit.put {a : Act} {o : Oper} {d : Option Tmp} (v : Value) (h : Off ops d o) : Fit ops (a.put d v) o ↔ Fit ops a o := by
  unfold Fit
  rw [wanted_put o a d v h]
  have : fitV o.op (a.put d v).eval = fitV o.op a.eval := fitV_congr o.op fun x hx => Act.eval_put fun t ht hxt => h t ht (by
    subst hxt
    exact List.mem_append_left _ (List.mem_filterMap.2 ⟨.tmp t, by simpa using hx, rfl⟩))
  rw [this]
theorem Fit.tmps {a a' : Act} {o : Oper} (h : a.tmps = a'.tmps) : Fit ops a o ↔ Fit ops a' o := by
  unfold Fit; rw [h, eval_tmps h]

/-- What an operation of class 0 or 1 gives at a world. -/
def Gives (P : Program) (ops : Array Oper) (o : Oper) (v : Value) (a : Act) (w : World) : Prop :=
  (Region.wanted o (yielded ops a.tmps) = true ∧ (execOp a.eval o).run P w = .ok (.value v) w) ∨ (Region.wanted o (yielded ops a.tmps) = false ∧ v = undef)

theorem Gives.of_same {o : Oper} {v : Value} {a a' : Act} {w : World} (h : Gives P ops o v a w) (he : execOp a'.eval o = execOp a.eval o) (hw : Region.wanted o (yielded ops a'.tmps) = Region.wanted o (yielded ops a.tmps)) : Gives P ops o v a' w := by
  unfold Gives at *; rw [he, hw]; exact h

theorem Gives.wpOp {i : Nat} {o : Oper} {v : Value} {a : Act} {w : World} (hi : ops[i]? = some o) (hy : Gives P ops o v a w) {Q : Exit → Act → World → Prop} {K : Act → World → Prop} (h : K (a.put o.dst v) w) : wpOp P ops Q i K a w := by
  unfold Go.wpOp
  simp only [hi]
  rcases hy with ⟨hw, hv⟩ | ⟨hw, rfl⟩
  · simp only [hw, if_true, Oper.wp, hv, Oper.upon]; exact .inl h
  · simp only [hw, Bool.false_eq_true, if_false]; exact h

/-- Taken apart: class 0 or 1. -/
theorem wpOp_gives {i : Nat} {o : Oper} (hi : ops[i]? = some o) {a : Act} {w : World} (hq : Region.wanted o (yielded ops a.tmps) = true → RP P (execOp a.eval o) ∧ ∀ w n w', (execOp a.eval o).run P w = .ok n w' → ∃ v, n = .value v)
    {K : Act → World → Prop} (h : wpOp P ops QF i K a w) : ∃ v, Gives P ops o v a w ∧ K (a.put o.dst v) w := by
  unfold Go.wpOp at h
  simp only [hi] at h
  split at h
  · rename_i hw
    obtain ⟨h1, h2⟩ := hq hw
    rcases h with h | h
    · unfold Oper.wp at h
      rcases h1 w with ⟨n, hn⟩ | ⟨x, w', hx⟩
      · obtain ⟨v, rfl⟩ := h2 _ _ _ hn
        rw [hn] at h
        exact ⟨v, .inl ⟨hw, hn⟩, h⟩
      · rw [hx] at h
        cases x <;> simp only [Oper.upon] at h <;> exact h.elim
    · exact (no_out h.2).elim
  · rename_i hw
    exact ⟨undef, .inr ⟨by simpa using hw, rfl⟩, h⟩

theorem quiet0 {o : Oper} {a : Act} (h : cls P o.op = 0) (hf : Fit ops a o) (hw : Region.wanted o (yielded ops a.tmps) = true) : RP P (execOp a.eval o) ∧ ∀ w n w', (execOp a.eval o).run P w = .ok n w' → ∃ v, n = .value v :=
  ⟨(execOp_still o h (hf hw)).1.reads, (execOp_still o h (hf hw)).2⟩
theorem quiet1 {o : Oper} {a : Act} (h : cls P o.op = 1) : RP P (execOp a.eval o) ∧ ∀ w n w', (execOp a.eval o).run P w = .ok n w' → ∃ v, n = .value v := execOp_reads o h

/-- Of class 0: the same in every world. -/
theorem Gives.any {o : Oper} {v : Value} {a : Act} {w : World} (h : cls P o.op = 0) (hf : Fit ops a o) (hg : Gives P ops o v a w) (w' : World) : Gives P ops o v a w' := by
  rcases hg with ⟨hw, hv⟩ | ⟨hw, rfl⟩
  · rcases (execOp_still o h (hf hw)).1 with ⟨n, hn⟩ | hh
    · rw [hn w] at hv
      simp only [Result.ok.injEq] at hv
      exact .inl ⟨hw, by rw [hn w', hv.1]⟩
    · obtain ⟨x, w1, hx⟩ := hh w
      rw [hx] at hv
      cases hv
  · exact .inr ⟨hw, rfl⟩

theorem Gives.yields {o : Oper} {v : Value} {a : Act} {w : World} (h : cls P o.op = 0) (hf : Fit ops a o) (hg : Gives P ops o v a w) : Yields P ops o v a := by
  rcases hg with ⟨hw, hv⟩ | ⟨hw, rfl⟩
  · exact .inl ⟨hw, fun w' => by
      rcases Gives.any h hf (.inl ⟨hw, hv⟩) w' with ⟨_, h2⟩ | ⟨h2, _⟩
      · exact h2
      · rw [hw] at h2; cases h2⟩
  · exact .inr ⟨hw, rfl⟩

theorem Gives.unique {o : Oper} {v v' : Value} {a : Act} {w : World} (h : Gives P ops o v a w) (h' : Gives P ops o v' a w) : v = v' := by
  rcases h with ⟨h1, h2⟩ | ⟨h1, rfl⟩ <;> rcases h' with ⟨h3, h4⟩ | ⟨h3, rfl⟩
  · rw [h2] at h4; simpa using h4
  · rw [h1] at h3; cases h3
  · rw [h1] at h3; cases h3
  · rfl

/-- The slot d written ahead, or behind. -/
theorem wpOp_put_back {j : Nat} {oj : Oper} (hj : ops[j]? = some oj) (hsj : ∀ cs b, oj.op ≠ .select cs b) {d : Option Tmp} (v : Value) (h1 : Off ops d oj) (h2 : ∀ t, d = some t → oj.dst ≠ some t) {K : Act → World → Prop} {a : Act} {w : World}
    (h : wpOp P ops QF j (fun a' w' => K (a'.put d v) w') a w) : wpOp P ops QF j K (a.put d v) w := by
  unfold wpOp at *
  simp only [hj] at *
  rw [wanted_put oj a d v h1]
  split
  · rename_i hw
    simp only [hw, if_true] at h
    rcases h with h | h
    · refine .inl ?_
      unfold Oper.wp at *
      rw [execOp_put oj hsj a d v h1]
      generalize (execOp a.eval oj).run P w = r at *
      cases r with
      | ok n w' =>
        cases n <;> simp only [Oper.upon] at h ⊢
        case value u => rw [Act.put_comm a v u h2]; exact h
        case skip => rw [Act.put_comm a v undef h2]; exact h
        case defer d' => rw [Act.put_defers, Act.put_comm _ v undef h2]; exact h
        case enter f args =>
          refine Calls.mono h fun e w'' he => ?_
          cases e with
          | returned u => show K ((a.put d v).put oj.dst u) w''; rw [Act.put_comm a v u h2]; exact he
          | panicked c => exact he
          | outgrown => exact he
        case row row args => exact Rows.mono h fun u w'' he => by rw [Act.put_comm a v u h2]; exact he
      | halt x w' => cases x <;> simp only [Oper.upon] at h ⊢ <;> exact h
    · exact (no_out h.2).elim
  · rename_i hw
    simp only [hw] at h
    rw [Act.put_comm a v undef h2]; exact h

/-! ### Two that commute -/
theorem swap {y i : Nat} {oy oi : Oper} (hy : ops[y]? = some oy) (hi : ops[i]? = some oi) (hap : oy.apart ops oi = true) (hsy : ∀ cs b, oy.op ≠ .select cs b) (hsi : ∀ cs b, oi.op ≠ .select cs b)
    (hc : cls P oy.op = 0 ∨ cls P oi.op = 0 ∨ (cls P oy.op = 1 ∧ cls P oi.op = 1)) {K : Act → World → Prop} {a : Act} {w : World} (h : stepF P ops y (stepF P ops i K) a w) : stepF P ops i (stepF P ops y K) a w := by
  obtain ⟨p1, p2, p3⟩ := Oper.apart_spec hap
  have off1 : Off ops oy.dst oi := p1
  have off2 : Off ops oi.dst oy := p3
  have ne2 : ∀ t, oi.dst = some t → oy.dst ≠ some t := fun t h1 h2 => p2 t h2 h1
  obtain ⟨hw, hfy⟩ := h
  have fy := hfy oy hy
  -- what is asked of i's operands
  have fi : Fit ops a oi := by
    obtain ⟨a1, w1, ⟨_, hf1⟩, v, hv⟩ := wpOp_some (wpOp_track hy hw)
    exact (Fit.put v off1).1 ((Fit.tmps hv).1 (hf1 oi hi))
  refine ⟨?_, fun o ho => by rw [hi] at ho; cases ho; exact fi⟩
  have fyi : ∀ u, Fit ops (a.put oi.dst u) oy := fun u => (Fit.put u off2).2 fy
  by_cases hc0 : cls P oy.op = 0
  · obtain ⟨v, hg, hK⟩ := wpOp_gives hy (quiet0 hc0 fy) hw
    have hyl := hg.yields hc0 fy
    have h1 := wpOp_put (Q := QF) hi hap hsy hsi (fun _ _ _ h => h) hyl hK.1
    refine wpOp_mono (fun a' w' hh => ?_) (wpOp_track hi h1)
    obtain ⟨⟨hy', hk'⟩, u, hu⟩ := hh
    exact ⟨hy'.wpOp hy hk', fun o ho => by rw [hy] at ho; cases ho; exact (Fit.tmps hu).2 (fyi u)⟩
  · rcases hc with hc | hc | ⟨hc1, hc2⟩
    · exact absurd hc hc0
    · obtain ⟨a1, w1, ⟨hs1, _⟩, u1, hu1⟩ := wpOp_some (wpOp_track hy hw)
      have fi1 : Fit ops a1 oi := (Fit.tmps hu1).2 ((Fit.put u1 off1).2 fi)
      obtain ⟨v, hg, _⟩ := wpOp_gives hi (quiet0 hc fi1) hs1
      have same : ∀ a' : Act, (∃ u, a'.tmps = (a.put oy.dst u).tmps) → execOp a'.eval oi = execOp a.eval oi ∧ Region.wanted oi (yielded ops a'.tmps) = Region.wanted oi (yielded ops a.tmps) := by
        rintro a' ⟨u, hu⟩
        exact ⟨by rw [eval_tmps hu]; exact execOp_put oi hsi a oy.dst u off1, by rw [hu]; exact wanted_put oi a oy.dst u off1⟩
      have hga : ∀ w, Gives P ops oi v a w := fun w => Gives.any hc fi (hg.of_same (same a1 ⟨u1, hu1⟩).1.symm (same a1 ⟨u1, hu1⟩).2.symm) w
      refine (hga w).wpOp hi ⟨?_, fun o ho => by rw [hy] at ho; cases ho; exact fyi v⟩
      refine wpOp_put_back hy hsy v off2 ne2 (wpOp_mono (fun a' w' hh => ?_) (wpOp_track hy hw))
      obtain ⟨⟨hs', _⟩, u, hu⟩ := hh
      have fi' : Fit ops a' oi := (Fit.tmps hu).2 ((Fit.put u off1).2 fi)
      obtain ⟨v', hg', hk'⟩ := wpOp_gives hi (quiet0 hc fi') hs'
      have : v' = v := hg'.unique ((hga w').of_same (same a' ⟨u, hu⟩).1 (same a' ⟨u, hu⟩).2)
      rw [this] at hk'
      exact hk'
    · obtain ⟨v, hg, hK⟩ := wpOp_gives hy (fun _ => quiet1 hc1) hw
      obtain ⟨u, hg', hk'⟩ := wpOp_gives hi (fun _ => quiet1 hc2) hK.1
      have g1 : Gives P ops oi u a w := hg'.of_same (execOp_put oi hsi a oy.dst v off1).symm (wanted_put oi a oy.dst v off1).symm
      refine g1.wpOp hi ⟨?_, fun o ho => by rw [hy] at ho; cases ho; exact fyi u⟩
      refine (hg.of_same (execOp_put oy hsy a oi.dst u off2) (wanted_put oy a oi.dst u off2)).wpOp hy ?_
      rw [← Act.put_comm a v u (fun t h1 => p2 t h1)]
      exact hk'

/-! ### Orders -/
/-- The operations that must have been done. -/
def deps (ops : Array Oper) (i : Nat) : List Nat := match ops[i]? with | some o => (o.after.toList.filter (Region.binds .any)).map (·.on) | none => []

/-- In each order y comes ahead of x. -/
def Cl (ops : Array Oper) (x y : Nat) : Prop := ∀ L : Nat → Prop, (∀ j, L j → ∀ e ∈ deps ops j, L e) → (∀ e ∈ deps ops x, L e) → L y
theorem Cl.dep {x y : Nat} (h : y ∈ deps ops x) : Cl ops x y := fun _ _ h2 => h2 y h
theorem Cl.step {x e y : Nat} (h : e ∈ deps ops x) (h' : Cl ops e y) : Cl ops x y := fun L h1 h2 => h' L h1 (h1 e (h2 e h))

def seekT (T : List (Nat × Nat)) (x : Nat) : Nat := ((T.find? fun p => p.1 == x).map fun p => p.2).getD 0
/-- x's bits: those that come ahead of it, T telling those of the ones ahead. -/
def maskOf (ops : Array Oper) (T : List (Nat × Nat)) (x : Nat) : Nat :=
  (deps ops x).foldl (fun m e => m ||| 2 ^ e ||| seekT T e) 0
def masks (ops : Array Oper) (l : List Nat) : List (Nat × Nat) := l.foldl (fun T x => (x, maskOf ops T x) :: T) []

def Sound (ops : Array Oper) (T : List (Nat × Nat)) : Prop := ∀ p ∈ T, ∀ y, p.2.testBit y = true → Cl ops p.1 y
theorem maskOf_sound {T : List (Nat × Nat)} (h : Sound ops T) (x y : Nat) (hb : (maskOf ops T x).testBit y = true) : Cl ops x y := by
  have gen : ∀ (l : List Nat) (m : Nat), (∀ e ∈ l, e ∈ deps ops x) → (∀ y, m.testBit y = true → Cl ops x y) → ∀ y, (l.foldl (fun m e => m ||| 2 ^ e ||| seekT T e) m).testBit y = true → Cl ops x y := by
    intro l
    induction l with
    | nil => intro m _ hm y hy; exact hm y hy
    | cons e r ih =>
      intro m hl hm y hy
      refine ih _ (fun e' he' => hl e' (by simp [he'])) (fun y hy => ?_) y hy
      simp only [Nat.testBit_or, Bool.or_eq_true] at hy
      rcases hy with (hy | hy) | hy
      · exact hm y hy
      · rw [Nat.testBit_two_pow] at hy
        obtain rfl : e = y := of_decide_eq_true hy
        exact Cl.dep (hl e (by simp))
      · unfold seekT at hy
        cases hf : T.find? (fun p => p.1 == e) with
        | none => simp [hf] at hy
        | some p =>
          simp only [hf, Option.map_some, Option.getD_some] at hy
          have h1 := List.mem_of_find?_eq_some hf
          have h2 := List.find?_some hf
          simp only [beq_iff_eq] at h2
          exact Cl.step (hl e (by simp)) (by have := h p h1 y hy; rw [h2] at this; exact this)
  exact gen _ 0 (fun _ h => h) (fun y hy => by simp at hy) y hb
theorem masks_sound (l : List Nat) : Sound ops (masks ops l) := by
  have gen : ∀ (l : List Nat) (T : List (Nat × Nat)), Sound ops T → Sound ops (l.foldl (fun T x => (x, maskOf ops T x) :: T) T) := by
    intro l
    induction l with
    | nil => intro T h; exact h
    | cons x r ih =>
      intro T h
      refine ih _ (fun p hp y hy => ?_)
      rcases List.mem_cons.1 hp with rfl | hp
      · exact maskOf_sound h x y hy
      · exact h p hp y hy
  exact gen l [] (fun p hp => by simp at hp)

/-- y (ahead) and x commute, or y comes ahead of x in each order. -/
def pairOk (P : Program) (ops : Array Oper) (cl : Nat → Nat) (T : List (Nat × Nat)) (y x : Nat) : Bool :=
  (seekT T x).testBit y ||
  match ops[y]?, ops[x]? with
  | some oy, some ox => oy.apart ops ox && (cl y == 0 || cl x == 0 || (cl y == 1 && cl x == 1))
  | _, _ => false
def clsAt (P : Program) (ops : Array Oper) (i : Nat) : Nat := match ops[i]? with | some o => cls P o.op | none => 2

def pairsB (P : Program) (ops : Array Oper) (cl : Nat → Nat) (T : List (Nat × Nat)) : List Nat → Bool
  | [] => true
  | y :: r => r.all (pairOk P ops cl T y) && pairsB P ops cl T r

/-- The order is one that may be drawn. -/
def validB (ops : Array Oper) : List Nat → List Nat → Bool
  | _, [] => true
  | seen, x :: r => (deps ops x).all (seen.contains ·) && validB ops (x :: seen) r

/-- What is asked of an operation's operands is not overwritten by it, or behind it. -/
def stayB (ops : Array Oper) : List Nat → Bool
  | [] => true
  | x :: r => (match ops[x]? with
    | some o => !asks o.op || (x :: r).all fun j => match (ops[j]?).bind (·.dst) with | some d => !(o.looksAt ops).contains d | none => true
    | none => true) && stayB ops r

def nodupB : List Nat → Bool
  | [] => true
  | x :: r => !r.contains x && nodupB r
theorem nodupB_spec : ∀ {l : List Nat}, nodupB l = true → l.Nodup
  | [], _ => List.nodup_nil
  | x :: r, h => by
    simp only [nodupB, Bool.and_eq_true, Bool.not_eq_true', List.contains_eq_mem, decide_eq_false_iff_not] at h
    exact List.nodup_cons.2 ⟨h.1, nodupB_spec h.2⟩

def canonB (P : Program) (ops : Array Oper) (cs : List Nat) (l : List Nat) : Bool :=
  let cl := fun i => cs.getD i 2
  Region.noSelect ops && (List.range ops.size).all (fun i => cl i == 2 || cl i == clsAt P ops i) && l.length == ops.size && (List.range ops.size).all (l.contains ·) && pairsB P ops cl (masks ops l) l && validB ops [] l && stayB ops l && l.all (fun i => decide (i < ops.size)) && nodupB l

/-- Asked at the region's end: the operands were fit. -/
def fitB (ops : Array Oper) (a : Act) : Bool := ops.all fun o => !asks o.op || !Region.wanted o (yielded ops a.tmps) || fitV o.op a.eval

def NF (N : Act → World → Prop) : Exit → Act → World → Prop := fun e a w => e = .normal ∧ N a w

def Swaps (P : Program) (ops : Array Oper) (y x : Nat) : Prop := ∀ (K : Act → World → Prop) (a : Act) (w : World), stepF P ops y (stepF P ops x K) a w → stepF P ops x (stepF P ops y K) a w

theorem steps_front {x : Nat} {l2 : List Nat} {N : Act → World → Prop} : ∀ (l1 : List Nat), (∀ y ∈ l1, Swaps P ops y x) → ∀ (a : Act) (w : World), stepsF P ops (l1 ++ x :: l2) N a w → stepF P ops x (stepsF P ops (l1 ++ l2) N) a w
  | [], _, _, _, h => h
  | y :: r, hs, a, w, h => hs y (by simp) _ _ _ (stepF_mono (fun a w h => steps_front r (fun z hz => hs z (by simp [hz])) a w h) h)

/-- The order l can be drawn, L having been done. -/
def Valid (ops : Array Oper) : (Nat → Prop) → List Nat → Prop
  | _, [] => True
  | L, x :: r => (∀ e ∈ deps ops x, L e) ∧ Valid ops (fun k => L k ∨ k = x) r
theorem Valid.mono : ∀ {l : List Nat} {L L' : Nat → Prop}, (∀ k, L k → L' k) → Valid ops L l → Valid ops L' l
  | [], _, _, _, _ => trivial
  | _ :: _, _, _, h, ⟨h1, h2⟩ => ⟨fun e he => h e (h1 e he), h2.mono fun k hk => hk.imp (h k) id⟩
theorem Valid.drop {x : Nat} : ∀ {l1 l2 : List Nat} {L : Nat → Prop}, Valid ops L (l1 ++ x :: l2) → Valid ops (fun k => L k ∨ k = x) (l1 ++ l2)
  | [], _, _, h => h.2
  | y :: r, l2, L, h => ⟨fun e he => .inl (h.1 e he), (h.2.drop).mono fun k hk => by rcases hk with (h | h) | h <;> simp [h]⟩

theorem ready_deps {x : Nat} {listed : Array Bool} (h : x ∈ Region.ready .any ops listed) : ∀ e ∈ deps ops x, listed.getD e false = true := by
  obtain ⟨_, o, ho, hall⟩ := mem_ready.1 h
  intro e he
  simp only [deps, ho, List.mem_map, List.mem_filter, Array.mem_toList_iff] at he
  obtain ⟨ed, ⟨h1, h2⟩, rfl⟩ := he
  exact hall ed h1 h2
theorem ready_of {x : Nat} {o : Oper} {listed : Array Bool} (ho : ops[x]? = some o) (hl : listed.getD x true = false) (h : ∀ e ∈ deps ops x, listed.getD e false = true) : x ∈ Region.ready .any ops listed := by
  refine mem_ready.2 ⟨hl, o, ho, fun e he hb => h e.on ?_⟩
  simp only [deps, ho, List.mem_map, List.mem_filter, Array.mem_toList_iff]
  exact ⟨e, ⟨he, hb⟩, rfl⟩

theorem wpAny_canon {Q : Exit → Act → World → Prop} {N : Act → World → Prop} (hN : ∀ a w, N a w → Q .normal a w) : ∀ (n : Nat) (l : List Nat) (listed : Array Bool), l.length = n → l.Nodup → listed.size = ops.size →
    (∀ i, i ∈ l ↔ i < ops.size ∧ listed.getD i true = false) → l.Pairwise (fun y x => Cl ops x y ∨ Swaps P ops y x) → Valid ops (fun k => listed.getD k false = true) l →
    (∀ j, listed.getD j false = true → ∀ e ∈ deps ops j, listed.getD e false = true) → ∀ (a : Act) (w : World), stepsF P ops l N a w → wpAny P .any ops Q n listed a w := by
  intro n
  induction n with
  | zero =>
    intro l listed hl hnd hsz hmem _ _ _ a w h
    obtain rfl : l = [] := List.eq_nil_of_length_eq_zero hl
    refine ⟨?_, hN _ _ h⟩
    cases hr : Region.ready .any ops listed with
    | nil => rfl
    | cons x xs =>
      have hx : x ∈ Region.ready .any ops listed := by rw [hr]; simp
      obtain ⟨h1, o, ho, _⟩ := mem_ready.1 hx
      have := (hmem x).2 ⟨(Array.getElem?_eq_some_iff.1 ho).1, h1⟩
      simp at this
  | succ n ih =>
    intro l listed hl hnd hsz hmem hp hv hdown a w h
    refine ⟨fun h0 => ?_, fun x hx => ?_⟩
    · obtain ⟨x, r, rfl⟩ : ∃ x r, l = x :: r := by cases l with | nil => simp at hl | cons x r => exact ⟨x, r, rfl⟩
      obtain ⟨h1, h2⟩ := (hmem x).1 (by simp)
      have := ready_of (Array.getElem?_eq_getElem h1) h2 hv.1
      rw [h0] at this
      cases this
    · obtain ⟨hun, o, ho, _⟩ := mem_ready.1 hx
      have hlt := (Array.getElem?_eq_some_iff.1 ho).1
      obtain ⟨l1, l2, rfl⟩ := List.append_of_mem ((hmem x).2 ⟨hlt, hun⟩)
      have hd := ready_deps hx
      have hsw : ∀ y ∈ l1, Swaps P ops y x := fun y hy => by
        rcases (List.pairwise_append.1 hp).2.2 y hy x (by simp) with hc | hs
        · exfalso
          have h1 := hc (fun k => listed.getD k false = true) hdown hd
          have h2 := ((hmem y).1 (by simp [hy])).2
          rcases Nat.lt_or_ge y listed.size with h' | h'
          · simp [h'] at h1 h2; rw [h1] at h2; cases h2
          · simp [Array.getElem?_eq_none h'] at h1
        · exact hs
      have hst := steps_front l1 hsw a w h
      have hnd' : (l1 ++ l2).Nodup := hnd.sublist (List.Sublist.append (List.Sublist.refl _) (List.sublist_cons_self _ _))
      have hxn : x ∉ l1 ++ l2 := by
        have h1 := List.pairwise_append.1 hnd
        intro hm
        rcases List.mem_append.1 hm with hm | hm
        · exact h1.2.2 x hm x (by simp) rfl
        · exact (List.nodup_cons.1 h1.2.1).1 hm
      have hget : ∀ k, (listed.setIfInBounds x true).getD k false = true ↔ (listed.getD k false = true ∨ k = x) := fun k => by
        by_cases hk : x = k
        · subst hk
          simp [hsz, hlt]
        · rw [getD_set_ne false hk]
          simp [Ne.symm hk]
      refine wpOp_to (fun _ _ _ h => h.elim) (fun h => (no_out h).elim) (fun a' w' h' => ih (l1 ++ l2) _ ?_ hnd' (by simpa using hsz) ?_ ?_ ?_ ?_ a' w' h') hst.1
      · simp at hl ⊢; omega
      · intro i
        by_cases hix : x = i
        · subst hix
          simp [hxn, hsz, hlt]
        · rw [getD_set_ne true hix, ← hmem i]
          simp [Ne.symm hix]
      · exact hp.sublist (List.Sublist.append (List.Sublist.refl _) (List.sublist_cons_self _ _))
      · exact hv.drop.mono fun k hk => (hget k).2 hk
      · intro j hj e he
        rcases (hget j).1 hj with hj | rfl
        · exact (hget e).2 (.inl (hdown j hj e he))
        · exact (hget e).2 (.inl (hd e he))

/-! ### From the walk in the order l to the steps with what is asked -/
def dsts (ops : Array Oper) (l : List Nat) (t : Nat) : Prop := ∃ j ∈ l, (ops[j]?).bind (·.dst) = some t

theorem wpOps_some {N : Act → World → Prop} : ∀ (l : List Nat) (a : Act) (w : World), wpOps P ops (NF N) l a w → ∃ a' w', N a' w' ∧ ∀ t, ¬ dsts ops l t → a'.tmps[t]? = a.tmps[t]?
  | [], a, w, h => ⟨a, w, h.2, fun _ _ => rfl⟩
  | i :: r, a, w, h => by
    rw [wpOps_cons] at h
    have h1 : wpOp P ops QF i (wpOps P ops (NF N) r) a w := wpOp_to (fun _ _ _ h => by cases h.1) (fun ⟨_, _, h⟩ => by cases h.1) (fun _ _ h => h) h
    cases hi : ops[i]? with
    | none =>
      unfold wpOp at h1
      simp only [hi] at h1
      obtain ⟨a', w', hn, ht⟩ := wpOps_some r a w h1
      exact ⟨a', w', hn, fun t hd => ht t fun ⟨j, hj, he⟩ => hd ⟨j, by simp [hj], he⟩⟩
    | some o =>
      obtain ⟨a1, w1, hk, v, hv⟩ := wpOp_some (wpOp_track hi h1)
      obtain ⟨a', w', hn, ht⟩ := wpOps_some r a1 w1 hk
      refine ⟨a', w', hn, fun t hd => ?_⟩
      rw [ht t fun ⟨j, hj, he⟩ => hd ⟨j, by simp [hj], he⟩, hv]
      cases hdst : o.dst with
      | none => rfl
      | some d =>
        have hne : d ≠ t := fun e => hd ⟨i, by simp, by simp [hi, hdst, e]⟩
        simp [Act.put, Array.getElem?_setIfInBounds_ne hne]

theorem stepsF_of_wpOps {N : Act → World → Prop} (hN : ∀ a w, N a w → fitB ops a = true) : ∀ (l : List Nat), stayB ops l = true → ∀ (a : Act) (w : World), wpOps P ops (NF N) l a w → stepsF P ops l N a w
  | [], _, _, _, h => h.2
  | i :: r, hs, a, w, h => by
    simp only [stayB, Bool.and_eq_true] at hs
    refine ⟨?_, fun o ho hw => ?_⟩
    · rw [wpOps_cons] at h
      exact wpOp_to (fun _ _ _ h => by cases h.1) (fun ⟨_, _, h⟩ => by cases h.1) (fun a w h => stepsF_of_wpOps hN r hs.2 a w h) h
    · cases ha : asks o.op with
      | false => exact fit_of_not_asks ha _
      | true =>
        obtain ⟨a', w', hn, ht⟩ := wpOps_some (i :: r) a w h
        have h1 := hs.1
        simp only [ho, ha, Bool.not_true, Bool.false_or, List.all_eq_true] at h1
        have hoff : ∀ t, t ∈ o.looksAt ops → a'.tmps[t]? = a.tmps[t]? := fun t htl => ht t fun ⟨j, hj, he⟩ => by
          have := h1 j hj
          rw [he] at this
          simp [htl] at this
        have hev : ∀ x ∈ o.op.operands, a'.eval x = a.eval x := fun x hx => by
          cases x with
          | tmp t =>
            have := hoff t (List.mem_append_left _ (List.mem_filterMap.2 ⟨.tmp t, by simpa using hx, rfl⟩))
            simp [Act.eval, this]
          | _ => rfl
        have hwa : Region.wanted o (yielded ops a'.tmps) = Region.wanted o (yielded ops a.tmps) := by
          unfold Region.wanted
          cases hg : o.guard with
          | none => rfl
          | some gw =>
            obtain ⟨g, want⟩ := gw
            have hy : yielded ops a'.tmps g = yielded ops a.tmps g := by
              unfold yielded
              cases hb : (ops[g]?).bind (·.dst) with
              | none => rfl
              | some t =>
                have := hoff t (by simp [Oper.looksAt, hg, hb])
                simp [this]
            simp only [hy]
        have hf := Array.all_eq_true_iff_forall_mem.1 (hN _ _ hn) o (Array.mem_of_getElem? ho)
        rw [hwa, hw, ha] at hf
        simp at hf
        rw [← fitV_congr o.op hev]
        exact hf

/-- THE LAW: a region that draws its order, walked in the order l. -/
theorem wp_canon {id : Nat} {Q : Exit → Act → World → Prop} {a : Act} {w : World} (cs : List Nat) (l : List Nat) (hm : P.follows .mixedOrders = true) (hc : canonB P ops cs l = true)
    (h : wpOps P ops (NF fun a' w' => fitB ops a' = true ∧ Q .normal a' w') l a w.drew) : (Code.region id ops true).wp P Q a w := by
  refine wp_region_any hm ?_
  simp only [canonB, Bool.and_eq_true, List.all_eq_true, List.mem_range, beq_iff_eq, Bool.or_eq_true, List.contains_iff_mem, decide_eq_true_eq] at hc
  obtain ⟨⟨⟨⟨⟨⟨⟨⟨h1, h2⟩, h3⟩, h4⟩, h5⟩, h6⟩, h7⟩, h8⟩, h9⟩ := hc
  have hsel := Region.noSelect_spec h1
  have hst := stepsF_of_wpOps (N := fun a' w' => fitB ops a' = true ∧ Q .normal a' w') (fun _ _ h => h.1) l h7 a _ h
  -- l is all places, each once
  have hnd : l.Nodup := nodupB_spec h9
  have hin : ∀ i, i ∈ l ↔ i < ops.size := fun i => ⟨h8 i, h4 i⟩
  have hcl : ∀ i o, ops[i]? = some o → ∀ c, c ≠ 2 → cs.getD i 2 = c → cls P o.op = c := fun i o ho c hc he => by
    have := h2 i (Array.getElem?_eq_some_iff.1 ho).1
    rcases this with h | h
    · exact absurd (he ▸ h) hc
    · simp only [clsAt, ho] at h
      rw [← h]; exact he
  have hT := masks_sound (ops := ops) l
  have hpair : ∀ {l' : List Nat}, pairsB P ops (fun i => cs.getD i 2) (masks ops l) l' = true → l'.Pairwise (fun y x => Cl ops x y ∨ Swaps P ops y x) := by
    intro l'
    induction l' with
    | nil => intro _; exact List.Pairwise.nil
    | cons y r ih =>
      intro hp
      simp only [pairsB, Bool.and_eq_true, List.all_eq_true] at hp
      refine List.Pairwise.cons (fun x hx => ?_) (ih hp.2)
      have := hp.1 x hx
      simp only [pairOk, Bool.or_eq_true] at this
      rcases this with h | h
      · refine .inl ?_
        unfold seekT at h
        cases hf : (masks ops l).find? (fun p => p.1 == x) with
        | none => simp [hf] at h
        | some p =>
          simp only [hf, Option.map_some, Option.getD_some] at h
          have e1 := List.find?_some hf
          simp only [beq_iff_eq] at e1
          have := hT p (List.mem_of_find?_eq_some hf) y h
          rwa [e1] at this
      · split at h
        · rename_i oy ox hy hx'
          simp only [Bool.and_eq_true, Bool.or_eq_true, beq_iff_eq] at h
          refine .inr fun K a w hh => swap hy hx' h.1 (hsel y oy · · hy) (hsel x ox · · hx') ?_ hh
          rcases h.2 with (h | h) | ⟨h, h'⟩
          · exact .inl (hcl y oy hy 0 (by decide) h)
          · exact .inr (.inl (hcl x ox hx' 0 (by decide) h))
          · exact .inr (.inr ⟨hcl y oy hy 1 (by decide) h, hcl x ox hx' 1 (by decide) h'⟩)
        · cases h
  have hval : ∀ (l' seen : List Nat), validB ops seen l' = true → Valid ops (fun k => k ∈ seen) l' := by
    intro l'
    induction l' with
    | nil => intro _ _; trivial
    | cons x r ih =>
      intro seen hv
      simp only [validB, Bool.and_eq_true, List.all_eq_true, List.contains_iff_mem] at hv
      exact ⟨hv.1, (ih _ hv.2).mono fun k hk => by rcases List.mem_cons.1 hk with h | h <;> simp [h]⟩
  have hfalse : ∀ k, (Array.replicate ops.size false).getD k false = false := fun k => by
    rcases Nat.lt_or_ge k ops.size with h | h
    · simp [h]
    · simp [Array.getElem?_eq_none, h]
  refine wpAny_canon (fun _ _ h => h.2) ops.size l _ h3 hnd (by simp) (fun i => ?_) (hpair h5) ((hval l [] h6).mono fun k hk => by simp at hk) (fun j hj => by rw [hfalse] at hj; cases hj) a _ hst
  rw [hin]
  constructor
  · intro h; exact ⟨h, by simp [h]⟩
  · exact fun h => h.1

theorem wpOps_list {Q : Exit → Act → World → Prop} : ∀ (l : List Nat) (a : Act) (w : World), wpList P ops Q (l.filterMap (ops[·]?)) a w → wpOps P ops Q l a w
  | [], _, _, h => h
  | i :: r, a, w, h => by
    rw [wpOps_cons]
    unfold wpOp
    cases hi : ops[i]? with
    | none => simp only [List.filterMap_cons, hi] at h; exact wpOps_list r a w h
    | some o =>
      simp only [List.filterMap_cons, hi] at h
      simp only [wpList] at h ⊢
      split
      · rename_i hw
        simp only [hw, if_true] at h
        exact h.imp (fun h => Oper.wp_mono (fun a w h => wpOps_list r a w h) h) id
      · rename_i hw
        simp only [hw, Bool.false_eq_true, if_false] at h
        exact wpOps_list r _ w h

/-- THE LAW, in the order of the text, ready for the walk: the classes are told ('cs'). -/
theorem wp_canon_text {id : Nat} {Q : Exit → Act → World → Prop} {a : Act} {w : World} {l : List Oper} (cs : List Nat) (hm : P.follows .mixedOrders = true) (hc : canonB P l.toArray cs (List.range l.length) = true)
    (h : wpList P l.toArray (NF fun a' w' => fitB l.toArray a' = true ∧ Q .normal a' w') l a w.drew) : (Code.region id l.toArray true).wp P Q a w := by
  refine wp_canon cs (List.range l.length) hm hc (wpOps_list _ _ _ ?_)
  have : (List.range l.length).filterMap (l.toArray[·]?) = l := by
    apply List.ext_getElem?
    intro i
    have hall : ∀ n, n ≤ l.length → (List.range n).filterMap (l.toArray[·]?) = l.take n := by
      intro n
      induction n with
      | zero => simp
      | succ n ih =>
        intro hn
        rw [List.range_succ, List.filterMap_append, ih (by omega), List.take_succ_eq_append_getElem (by omega)]
        simp [List.getElem?_eq_getElem (show n < l.length by omega)]
    rw [hall l.length (Nat.le_refl _), List.take_length]
  rw [this]
  exact h
end
end Go.Proofs.Ytnfecdjcddidgaa

namespace Go.Proofs.Ytnfecdjcddidgaa
/-- .. the classes reckoned. -/
theorem wp_text {P : Program} {id : Nat} {Q : Exit → Act → World → Prop} {a : Act} {w : World} {l : List Oper} (hm : P.follows .mixedOrders = true) (hc : canonB P l.toArray (l.map fun o => cls P o.op) (List.range l.length) = true)
    (h : wpList P l.toArray (NF fun a' w' => fitB l.toArray a' = true ∧ Q .normal a' w') l a w.drew) : (Code.region id l.toArray true).wp P Q a w :=
  wp_canon_text _ hm hc h
theorem nf_end {ops : Array Oper} {N : Act → World → Prop} {a : Act} {w : World} (h1 : fitB ops a = true) (h2 : N a w) : NF (fun a' w' => fitB ops a' = true ∧ N a' w') .normal a w := ⟨rfl, h1, h2⟩
end Go.Proofs.Ytnfecdjcddidgaa
