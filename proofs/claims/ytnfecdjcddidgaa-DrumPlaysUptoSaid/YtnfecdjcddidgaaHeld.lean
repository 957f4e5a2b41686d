/- A region that draws its order, walked once in the text's order: where some cells are held through all of its writes, loads of them may come anywhere. Over any program. -/
import Derived.Test.YtnfecdjcddidgaaCanon
import Derived.Shelf.Abstract
namespace Go.Proofs.Ytnfecdjcddidgaa

/-- The operation i loads the cell p, which is v throughout. -/
structure Held where
  i : Nat
  t : TypeId
  x : Operand
  p : Addr
  v : Value

section
variable {P : Program} {ops : Array Oper} {HL : List Held} {fl : Nat → Prop}

def JH (HL : List Held) (w : World) : Prop := ∀ h ∈ HL, w.cell? h.p = some h.v
def FitH (HL : List Held) (a : Act) (i : Nat) : Prop := ∀ h ∈ HL, h.i = i → a.eval h.x = .pointer (some h.p)

def plainB (P : Program) (t : TypeId) : Bool := match P.underlying t with
  | some (.struct _) | some (.array _ _) | none => false
  | some _ => true
/-- The list names loads of one cell. -/
def HeldOk (P : Program) (ops : Array Oper) (HL : List Held) : Prop := ∀ h ∈ HL, ∃ o, ops[h.i]? = some o ∧ o.op = .load h.t h.x ∧ plainB P h.t = true

theorem load_held {t : TypeId} {x : Operand} {o : Oper} {ρ : Operand → Value} {p : Addr} {v : Value} {w : World} (ho : o.op = .load t x) (hp : plainB P t = true) (hx : ρ x = .pointer (some p)) (hc : w.cell? p = some v) : (execOp ρ o).run P w = .ok (.value v) w := by
  unfold plainB at hp
  cases hu : P.underlying t with
  | none => rw [hu] at hp; cases hp
  | some d =>
    have hd : (match d with | .struct _ | .array _ _ => true | _ => false) = false := by
      rw [hu] at hp
      cases d <;> first | rfl | cases hp
    have hagg := Go.Proofs.run_isAgg_plain hu hd w
    simp [execOp, ho, Instr.loadAt, hx, loadVar, hagg, Instr.sureAddr, run_load, hc, Result.andThen]

def stepJ (P : Program) (ops : Array Oper) (HL : List Held) (fl : Nat → Prop) (i : Nat) (K : Act → World → Prop) (a : Act) (w : World) : Prop :=
  (fl i → JH HL w) ∧ wpOp P ops QF i (fun a' w' => (fl i → JH HL w') ∧ K a' w') a w ∧ (∀ o, ops[i]? = some o → Fit ops a o) ∧ FitH HL a i
def stepsJ (P : Program) (ops : Array Oper) (HL : List Held) (fl : Nat → Prop) : List Nat → (Act → World → Prop) → Act → World → Prop
  | [], K => K
  | i :: r, K => stepJ P ops HL fl i (stepsJ P ops HL fl r K)
theorem stepJ_mono {i : Nat} {K K' : Act → World → Prop} (h : ∀ a w, K a w → K' a w) {a : Act} {w : World} (hs : stepJ P ops HL fl i K a w) : stepJ P ops HL fl i K' a w :=
  ⟨hs.1, wpOp_mono (fun a w hh => ⟨hh.1, h a w hh.2⟩) hs.2.1, hs.2.2⟩

/-- The same wherever the cells are held. -/
def Steady (P : Program) (HL : List Held) (i : Nat) (o : Oper) : Prop := cls P o.op = 0 ∨ ∃ h ∈ HL, h.i = i

theorem held_eval {o : Oper} {h : Held} (ho : o.op = .load h.t h.x) {a a' : Act} (hh : a'.eval h.x = a.eval h.x) : o.op = .load h.t h.x := ho

theorem steady_gives (hok : HeldOk P ops HL) {i : Nat} {o : Oper} (hi : ops[i]? = some o) (hs : Steady P HL i o) {a : Act} {w : World} (hf : Fit ops a o) (hfh : FitH HL a i) (hj : JH HL w) {K : Act → World → Prop} (h : wpOp P ops QF i K a w) :
    ∃ v, (∀ w', JH HL w' → Gives P ops o v a w') ∧ K (a.put o.dst v) w := by
  rcases hs with hc | ⟨hd, hm, hdi⟩
  · obtain ⟨v, hg, hK⟩ := wpOp_gives hi (quiet0 hc hf) h
    exact ⟨v, fun w' _ => hg.any hc hf w', hK⟩
  · obtain ⟨o', ho', hop, hpl⟩ := hok hd hm
    rw [hdi, hi] at ho'
    cases ho'
    by_cases hw : Region.wanted o (yielded ops a.tmps) = true
    · have hg : ∀ w', JH HL w' → Gives P ops o hd.v a w' := fun w' hj' => .inl ⟨hw, load_held hop hpl (hfh hd hm hdi) (hj' hd hm)⟩
      refine ⟨hd.v, hg, ?_⟩
      obtain ⟨v, hg', hK⟩ := wpOp_gives hi (fun _ => quiet1 (by rw [hop]; rfl)) h
      rw [(hg w hj).unique hg']
      exact hK
    · have hw' : Region.wanted o (yielded ops a.tmps) = false := by simpa using hw
      have hg : ∀ w', JH HL w' → Gives P ops o undef a w' := fun w' _ => .inr ⟨hw', rfl⟩
      refine ⟨undef, hg, ?_⟩
      obtain ⟨v, hg', hK⟩ := wpOp_gives hi (fun h => absurd h hw) h
      rw [(hg w hj).unique hg']
      exact hK

theorem wpOp_put_front {j : Nat} {oj : Oper} (hj : ops[j]? = some oj) (hsj : ∀ cs b, oj.op ≠ .select cs b) {d : Option Tmp} (v : Value) (h1 : Off ops d oj) (h2 : ∀ t, d = some t → oj.dst ≠ some t) {K : Act → World → Prop} {a : Act} {w : World}
    (h : wpOp P ops QF j K (a.put d v) w) : wpOp P ops QF j (fun a' w' => K (a'.put d v) w') a w := by
  unfold wpOp at *
  simp only [hj] at *
  rw [wanted_put oj a d v h1] at h
  split
  · rename_i hw
    simp only [hw, if_true] at h
    rcases h with h | h
    · refine .inl ?_
      unfold Oper.wp at *
      rw [execOp_put oj hsj a d v h1] at h
      generalize (execOp a.eval oj).run P w = r at *
      cases r with
      | ok n w' =>
        cases n <;> simp only [Oper.upon] at h ⊢
        case value u => rw [Act.put_comm a v u h2] at h; exact h
        case skip => rw [Act.put_comm a v undef h2] at h; exact h
        case defer d' => rw [Act.put_defers, Act.put_comm _ v undef h2] at h; exact h
        case enter f args =>
          refine Calls.mono h fun e w'' he => ?_
          cases e with
          | returned u => have he : K ((a.put d v).put oj.dst u) w'' := he; rw [Act.put_comm a v u h2] at he; exact he
          | panicked c => exact he
          | outgrown => exact he
        case row row args => exact Rows.mono h fun u w'' he => by rw [Act.put_comm a v u h2] at he; exact he
      | halt x w' => cases x <;> simp only [Oper.upon] at h ⊢ <;> exact h
    · exact (no_out h.2).elim
  · rename_i hw
    simp only [hw] at h
    rw [Act.put_comm a v undef h2] at h; exact h

theorem FitH.tmps {a a' : Act} {i : Nat} (h : a.tmps = a'.tmps) : FitH HL a i ↔ FitH HL a' i := by
  unfold FitH; rw [eval_tmps h]
theorem FitH.put (hok : HeldOk P ops HL) {a : Act} {i : Nat} {o : Oper} (hi : ops[i]? = some o) {d : Option Tmp} (v : Value) (h : Off ops d o) : FitH HL (a.put d v) i ↔ FitH HL a i := by
  unfold FitH
  have key : ∀ hd ∈ HL, hd.i = i → (a.put d v).eval hd.x = a.eval hd.x := fun hd hm he => by
    obtain ⟨o', ho', hop, _⟩ := hok hd hm
    rw [he, hi] at ho'
    cases ho'
    exact Act.eval_put fun t ht hxt => h t ht (by
      refine List.mem_append_left _ (List.mem_filterMap.2 ⟨.tmp t, ?_, rfl⟩)
      rw [hop]; simp [Op.operands, hxt])
  exact ⟨fun hh hd hm he => (key hd hm he).symm.trans (hh hd hm he), fun hh hd hm he => (key hd hm he).trans (hh hd hm he)⟩

theorem swapJ (hok : HeldOk P ops HL) {y i : Nat} {oy oi : Oper} (hy : ops[y]? = some oy) (hi : ops[i]? = some oi) (hfy : fl y) (hfi : fl i) (hap : oy.apart ops oi = true) (hsy : ∀ cs b, oy.op ≠ .select cs b) (hsi : ∀ cs b, oi.op ≠ .select cs b)
    (hc : Steady P HL y oy ∨ Steady P HL i oi ∨ (cls P oy.op = 1 ∧ cls P oi.op = 1)) {K : Act → World → Prop} {a : Act} {w : World} (h : stepJ P ops HL fl y (stepJ P ops HL fl i K) a w) : stepJ P ops HL fl i (stepJ P ops HL fl y K) a w := by
  obtain ⟨p1, p2, p3⟩ := Oper.apart_spec hap
  have off1 : Off ops oy.dst oi := p1
  have off2 : Off ops oi.dst oy := p3
  have ne1 : ∀ t, oy.dst = some t → oi.dst ≠ some t := fun t h1 h2 => p2 t h1 h2
  have ne2 : ∀ t, oi.dst = some t → oy.dst ≠ some t := fun t h1 h2 => p2 t h2 h1
  obtain ⟨hj, hw, hff, hfh⟩ := h
  have hj := hj hfy
  have fy := hff oy hy
  have fi : Fit ops a oi ∧ FitH HL a i := by
    obtain ⟨a1, w1, ⟨_, _, _, hf1, hf2⟩, v, hv⟩ := wpOp_some (wpOp_track hy hw)
    exact ⟨(Fit.put v off1).1 ((Fit.tmps hv).1 (hf1 oi hi)), (FitH.put hok hi v off1).1 ((FitH.tmps hv).1 hf2)⟩
  refine ⟨fun _ => hj, ?_, fun o ho => by rw [hi] at ho; cases ho; exact fi.1, fi.2⟩
  have fyi : ∀ a' u, a'.tmps = (a.put oi.dst u).tmps → (∀ o, ops[y]? = some o → Fit ops a' o) ∧ FitH HL a' y := fun a' u hu =>
    ⟨fun o ho => by rw [hy] at ho; cases ho; exact (Fit.tmps hu).2 ((Fit.put u off2).2 fy), (FitH.tmps hu).2 ((FitH.put hok hy u off2).2 hfh)⟩
  by_cases hc0 : Steady P HL y oy
  · obtain ⟨v, hg, hjw, hK⟩ := steady_gives hok hy hc0 fy hfh hj hw
    have h1 := wpOp_put_front hi hsi v off1 ne1 hK.2.1
    refine wpOp_mono (fun a' w' hh => ?_) (wpOp_track hi h1)
    obtain ⟨⟨hj', hk'⟩, u, hu⟩ := hh
    have hj'' := hj' hfi
    have hga : Gives P ops oy v a' w' := (hg w' hj'').of_same (by rw [eval_tmps hu]; exact execOp_put oy hsy a oi.dst u off2) (by rw [hu]; exact wanted_put oy a oi.dst u off2)
    exact ⟨fun _ => hj'', fun _ => hj'', hga.wpOp hy ⟨fun _ => hj'', hk'⟩, fyi a' u hu⟩
  · rcases hc with hc | hc | ⟨hc1, hc2⟩
    · exact absurd hc hc0
    · obtain ⟨a1, w1, ⟨hj1, _, hs1, _⟩, u1, hu1⟩ := wpOp_some (wpOp_track hy hw)
      have fi1 : Fit ops a1 oi := (Fit.tmps hu1).2 ((Fit.put u1 off1).2 fi.1)
      have fi2 : FitH HL a1 i := (FitH.tmps hu1).2 ((FitH.put hok hi u1 off1).2 fi.2)
      obtain ⟨v, hg, _⟩ := steady_gives hok hi hc fi1 fi2 (hj1 hfy) hs1
      have same : ∀ a' : Act, (∃ u, a'.tmps = (a.put oy.dst u).tmps) → execOp a'.eval oi = execOp a.eval oi ∧ Region.wanted oi (yielded ops a'.tmps) = Region.wanted oi (yielded ops a.tmps) := by
        rintro a' ⟨u, hu⟩
        exact ⟨by rw [eval_tmps hu]; exact execOp_put oi hsi a oy.dst u off1, by rw [hu]; exact wanted_put oi a oy.dst u off1⟩
      have hga : ∀ w, JH HL w → Gives P ops oi v a w := fun w hjw => (hg w hjw).of_same (same a1 ⟨u1, hu1⟩).1.symm (same a1 ⟨u1, hu1⟩).2.symm
      refine (hga w hj).wpOp hi ⟨fun _ => hj, fun _ => hj, ?_, fyi _ v rfl⟩
      refine wpOp_put_back hy hsy v off2 ne2 (wpOp_mono (fun a' w' hh => ?_) (wpOp_track hy hw))
      obtain ⟨⟨hj', _, hs', _⟩, u, hu⟩ := hh
      have hj' := hj' hfy
      have fi' : Fit ops a' oi := (Fit.tmps hu).2 ((Fit.put u off1).2 fi.1)
      have fi'' : FitH HL a' i := (FitH.tmps hu).2 ((FitH.put hok hi u off1).2 fi.2)
      obtain ⟨v', hg', hk'⟩ := steady_gives hok hi hc fi' fi'' hj' hs'
      have : v' = v := (hg' w' hj').unique ((hga w' hj').of_same (same a' ⟨u, hu⟩).1 (same a' ⟨u, hu⟩).2)
      rw [this] at hk'
      exact ⟨fun _ => hj', hk'.2⟩
    · obtain ⟨v, hg, hjv, hK⟩ := wpOp_gives hy (fun _ => quiet1 hc1) hw
      obtain ⟨u, hg', hk'⟩ := wpOp_gives hi (fun _ => quiet1 hc2) hK.2.1
      have g1 : Gives P ops oi u a w := hg'.of_same (execOp_put oi hsi a oy.dst v off1).symm (wanted_put oi a oy.dst v off1).symm
      refine g1.wpOp hi ⟨fun _ => hj, fun _ => hj, ?_, fyi _ u rfl⟩
      refine (hg.of_same (execOp_put oy hsy a oi.dst u off2) (wanted_put oy a oi.dst u off2)).wpOp hy ⟨fun _ => hj, ?_⟩
      rw [← Act.put_comm a v u (fun t h1 => p2 t h1)]
      exact hk'.2
end
end Go.Proofs.Ytnfecdjcddidgaa
