/- A region that draws its order, walked once, in the order of its text: where whatever two operations may come in either order commute. Over any program. -/
import Derived.Orders
import Derived.Tactics
import Derived.KernelRfl
import Derived.Laws.Panics
namespace Go.Proofs.Ytnfecdjcddidgaa

/-! ### 1. Operations that look at no world -/
/-- A value in every world, or a halt in every world. -/
def SP {α : Type} (P : Program) (s : Sem α) : Prop := (∃ v, ∀ w, s.run P w = .ok v w) ∨ (∀ w, ∃ h w', s.run P w = .halt h w')
/-- A value, the world unturned, or a halt. -/
def RP {α : Type} (P : Program) (s : Sem α) : Prop := ∀ w, (∃ v, s.run P w = .ok v w) ∨ (∃ h w', s.run P w = .halt h w')

section
variable {α β : Type} {P : Program}
theorem SP.pure (a : α) : SP P (Pure.pure a : Sem α) := .inl ⟨a, fun _ => rfl⟩
theorem SP.pure' (a : α) : SP P (Sem.pure a : Sem α) := .inl ⟨a, fun _ => rfl⟩
theorem SP.halt (h : Halt) : SP P (.halt h : Sem α) := .inr fun w => ⟨h, w, rfl⟩
theorem SP.stuck (s : String) : SP P (stuck s : Sem α) := SP.halt _
theorem SP.unsupported (s : Unsupported) : SP P (unsupported s : Sem α) := SP.halt _
theorem SP.bind {s : Sem α} {f : α → Sem β} (h : SP P s) (hf : ∀ a, SP P (f a)) : SP P (s >>= f) := by
  rcases h with ⟨v, hv⟩ | h
  · rcases hf v with ⟨u, hu⟩ | h
    · exact .inl ⟨u, fun w => by simp [hv w, hu w]⟩
    · exact .inr fun w => by obtain ⟨x, w', hx⟩ := h w; exact ⟨x, w', by simp [hv w, hx]⟩
  · exact .inr fun w => by obtain ⟨x, w', hx⟩ := h w; exact ⟨x, w', by simp [hx]⟩
theorem SP.program {k : Program → Sem α} (h : SP P (k P)) : SP P (.program k) := h
theorem SP.underlying (t : TypeId) : SP P (underlying t) := by
  cases h : P.underlying t with
  | some d => exact .inl ⟨d, fun w => run_underlying h w⟩
  | none => exact .inr fun w => ⟨_, w, by simp [Go.underlying, h, Go.stuck, Go.program, Sem.run]; rfl⟩
theorem SP.typeInfo (t : TypeId) : SP P (typeInfo t) := by
  cases h : P.info? t with
  | some d => exact .inl ⟨d, fun w => by simp [Go.typeInfo, h, Go.program, Sem.run]⟩
  | none => exact .inr fun w => ⟨_, w, by simp [Go.typeInfo, h, Go.stuck, Go.program, Sem.run]; rfl⟩
theorem SP.sizeOf (t : TypeId) : SP P (sizeOf t) := SP.bind (SP.typeInfo t) fun _ => SP.pure _
theorem SP.isAgg (t : TypeId) : SP P (isAgg t) := SP.bind (SP.underlying t) fun _ => by split <;> exact SP.pure _
theorem SP.zeroValue (t : TypeId) : SP P (zeroValue t) := SP.bind (SP.typeInfo t) fun _ => by split; exact SP.pure _; exact SP.halt _
theorem SP.asIntOf (v : Value) : SP P (asIntOf v) := by unfold Go.asIntOf; split; exact SP.pure _; exact SP.halt _; exact SP.halt _
theorem SP.asBool (v : Value) : SP P (asBool v) := by unfold Go.asBool; split; exact SP.pure _; exact SP.halt _
theorem SP.asAgg (v : Value) : SP P (asAgg v) := by unfold Go.asAgg; split; exact SP.pure _; exact SP.halt _
theorem SP.sureAddr (v : Value) : SP P (Instr.sureAddr v) := by unfold Instr.sureAddr; split; exact SP.pure _; exact SP.halt _
theorem SP.part (t : TypeId) (cs : Array Value) (o : Nat) : SP P (part t cs o) := by
  unfold Go.part
  refine SP.bind (SP.isAgg t) fun _ => ?_
  split
  · exact SP.bind (SP.sizeOf t) fun _ => SP.pure _
  · split
    · exact SP.pure _
    · exact SP.halt _
end

/-! ### 2. Which operations are such -/
def isInt : Value → Bool
  | .int .. => true
  | _ => false
def isPtr : Value → Bool
  | .pointer _ => true
  | _ => false
/-- Two that '==' and its kin tell without a look at memory. -/
def pairV : Value → Value → Bool
  | .int .., .int .. | .bool _, .bool _ | .string _, .string _ => true
  | .pointer none, .pointer _ | .pointer _, .pointer none => true
  | .slice none _ _, .slice .. | .slice .., .slice none _ _ => true
  | .map none, .map _ | .map _, .map none => true
  | _, _ => false

/-- What is asked of an operation's operands, if it is to look at no world. -/
def fitV (op : Op) (ρ : Operand → Value) : Bool :=
  match op with
  | .binOp _ _ x y _ => pairV (ρ x) (ρ y)
  | .convert _ _ x => isInt (ρ x)
  | .call { callee := .builtin .min, args, .. } | .call { callee := .builtin .max, args, .. } => args.all fun x => isInt (ρ x)
  | .nilCheck x => isPtr (ρ x)
  | _ => true

/-- 0: it looks at no world; 1: it reads; 2: whatever. -/
def cls (P : Program) : Op → Nat
  | .move _ | .assign _ | .pick .. | .nilCheck _ | .extract .. | .makeFunc .. | .unOp .. | .indexAddr .. | .slice .. | .binOp .. | .field .. | .build .. | .makeInterface .. => 0
  | .fieldAddr s _ f => match P.underlying s with
    | some (.struct fs) => match fs[f]? with
      | some g => match P.info? g.type with
        | some i => if i.size = 0 then 2 else 0
        | none => 2
      | none => 2
    | _ => 2
  | .convert _ d _ => match P.underlying d with | some (.int _) => 0 | _ => 2
  | .call { callee := .builtin .len, argTypes := ts, .. } => match (ts[0]?).bind P.underlying with | some (.slice _) | some .string => 0 | _ => 2
  | .call { callee := .builtin .cap, argTypes := ts, .. } => match (ts[0]?).bind P.underlying with | some (.slice _) => 0 | _ => 2
  | .call { callee := .builtin .min, .. } | .call { callee := .builtin .max, .. } => 0
  | .load .. => 1
  | _ => 2

section
variable {P : Program} {ρ : Operand → Value}
theorem SP.bounds {α : Type} (k : IntKind) (x y : Int) (c : BoundsCode) : SP P (boundsPanic k x y c : Sem α) := by
  refine .inr fun w => ?_
  obtain ⟨s, w', h⟩ := run_boundsPanic (α := α) (P := P) (w := w) k x y c
  exact ⟨_, _, h⟩
theorem SP.val {s : Sem Value} (h : SP P s) : SP P (do Pure.pure (Next.value (← s))) := SP.bind h fun _ => SP.pure _
theorem SP.sliceBound (x : Value) (y : Nat) (c : BoundsCode) : SP P (Instr.sliceBound x y c) := by
  unfold Instr.sliceBound
  refine SP.bind (SP.asIntOf x) fun r => ?_
  obtain ⟨k, i⟩ := r
  dsimp only
  split
  · exact SP.pure _
  · exact SP.bounds _ _ _ _
theorem SP.sliceBounds (b : Bool) (l c : Nat) (lo hi mx : Option Value) : SP P (Instr.sliceBounds b l c lo hi mx) := by
  unfold Instr.sliceBounds
  repeat' first | exact SP.pure _ | exact SP.halt _ | exact SP.stuck _ | exact SP.sliceBound _ _ _ | (intro _) | (refine SP.bind ?_ ?_) | split | dsimp only

theorem SP.slice (t : TypeId) (x : Value) (lo hi mx : Option Value) : SP P (Instr.slice t x lo hi mx) := by
  unfold Instr.slice
  refine SP.bind (SP.underlying t) fun d => ?_
  split
  · repeat' first | exact SP.pure _ | exact SP.halt _ | exact SP.stuck _ | exact SP.sliceBounds _ _ _ _ _ _ | (intro _) | (refine SP.bind ?_ ?_) | split | dsimp only
  · repeat' first | exact SP.pure _ | exact SP.halt _ | exact SP.stuck _ | exact SP.sliceBounds _ _ _ _ _ _ | exact SP.sizeOf _ | (intro _) | (refine SP.bind ?_ ?_) | split | dsimp only
  · refine SP.bind ?_ ?_
    · unfold asAddr
      split
      · exact SP.pure _
      · exact .inr fun w => ⟨_, w, by simp [runtimePanic, goPanic, go_sem]; rfl⟩
      · exact SP.halt _
    · repeat' first | exact SP.pure _ | exact SP.halt _ | exact SP.stuck _ | exact SP.sliceBounds _ _ _ _ _ _ | exact SP.sizeOf _ | exact SP.underlying _ | (intro _) | (refine SP.bind ?_ ?_) | split | dsimp only
  · exact SP.halt _

theorem SP.sliceAt (t : TypeId) (x : Value) (lo hi mx : Option Value) : SP P (Instr.sliceAt t x lo hi mx) := by
  unfold Instr.sliceAt
  refine SP.bind (SP.underlying t) fun d => ?_
  split
  · repeat' first | exact SP.pure _ | exact SP.halt _ | exact SP.stuck _ | exact SP.sliceBounds _ _ _ _ _ _ | exact SP.sizeOf _ | exact SP.sureAddr _ | (intro _) | (refine SP.bind ?_ ?_) | split | dsimp only
  · exact SP.slice _ _ _ _ _

theorem SP.indexAt (t : TypeId) (x ix : Value) : SP P (Instr.indexAt t x ix) := by
  unfold Instr.indexAt
  repeat' first | exact SP.pure _ | exact SP.halt _ | exact SP.stuck _ | exact SP.unsupported _ | exact SP.bounds _ _ _ _ | exact SP.sizeOf _ | exact SP.sureAddr _ | exact SP.underlying _ | exact SP.asIntOf _ | (intro _) | (refine SP.bind ?_ ?_) | split | dsimp only

theorem SP.extract (x : Value) (i : Nat) : SP P (Instr.extract x i) := by
  unfold Instr.extract
  repeat' first | exact SP.pure _ | exact SP.halt _ | exact SP.stuck _ | split

theorem SP.field (t : TypeId) (x : Value) (i : Nat) : SP P (Instr.field t x i) := by
  unfold Instr.field
  repeat' first | exact SP.pure _ | exact SP.halt _ | exact SP.stuck _ | exact SP.underlying _ | exact SP.asAgg _ | exact SP.part _ _ _ | (intro _) | (refine SP.bind ?_ ?_) | split | dsimp only

theorem SP.mapM_list {α β : Type} (f : α → Sem β) (h : ∀ a, SP P (f a)) : ∀ l : List α, SP P (l.mapM f)
  | [] => SP.pure _
  | a :: r => by
    rw [List.mapM_cons]
    exact SP.bind (h a) fun b => SP.bind (SP.mapM_list f h r) fun bs => SP.pure _

theorem SP.build (t : TypeId) (ps : Array (Nat × Value)) : SP P (Instr.build t ps) := by
  unfold Instr.build
  refine SP.bind (SP.zeroValue t) fun z => ?_
  refine SP.bind (SP.underlying t) fun d => ?_
  split
  · refine SP.bind ?_ fun _ => ?_
    · rw [Array.mapM_eq_mapM_toList]
      refine SP.bind (SP.mapM_list _ (fun f => SP.bind (SP.sizeOf _) fun _ => SP.pure _) _) fun _ => SP.pure _
    · repeat' first | exact SP.pure _ | exact SP.halt _ | exact SP.stuck _ | split
  · repeat' first | exact SP.pure _ | exact SP.halt _ | exact SP.stuck _ | exact SP.sizeOf _ | (intro _) | (refine SP.bind ?_ ?_) | split | dsimp only
  · exact SP.halt _

theorem SP.makeInterface (t : TypeId) (x : Value) : SP P (Instr.makeInterface t x) := by
  unfold Instr.makeInterface
  repeat' first | exact SP.pure _ | exact SP.halt _ | exact SP.stuck _ | exact SP.underlying _ | (intro _) | (refine SP.bind ?_ ?_) | split | dsimp only

theorem SP.panicErr {α : Type} (m : String) : SP P (runtimePanic (.error m) : Sem α) := .inr fun w => ⟨_, w, by simp [runtimePanic, goPanic, go_sem]; rfl⟩

theorem SP.intBits (op : BinOp) (k : IntKind) (x y : Int) : SP P (Op.intBits op k x y) := by
  unfold Op.intBits
  cases op <;> dsimp only <;> first | exact SP.pure _ | exact SP.halt _
theorem SP.intArith (op : BinOp) (k : IntKind) (x y : Int) : SP P (Op.intArith op k x y) := by
  unfold Op.intArith
  cases op <;> first | exact SP.pure _ | exact SP.halt _
theorem SP.intCmp (op : BinOp) (x y : Int) : SP P (Op.intCmp op x y) := by
  unfold Op.intCmp
  cases op <;> first | exact SP.pure _ | exact SP.halt _
theorem SP.intDiv (op : BinOp) (k : IntKind) (x y : Int) : SP P (Op.intDiv op k x y) := by
  unfold Op.intDiv
  split
  · exact SP.panicErr _
  · cases op <;> first | exact SP.pure _ | exact SP.halt _
theorem SP.shift (op : BinOp) (k : IntKind) (x : Int) (k2 : IntKind) (y : Int) : SP P (Op.shift op k x k2 y) := by
  unfold Op.shift
  split
  · exact SP.panicErr _
  · cases op <;> first | exact SP.pure _ | exact SP.halt _
theorem SP.stringOp (op : BinOp) (x y : ByteArray) : SP P (Op.stringOp op x y) := by
  unfold Op.stringOp
  cases op <;> dsimp only <;> first | exact SP.pure _ | exact SP.halt _ | (split <;> first | exact SP.pure _ | exact SP.panicErr _ | exact SP.halt _ | skip)
  all_goals repeat' first | exact SP.pure _ | exact SP.halt _ | exact SP.stuck _ | exact SP.unsupported _ | exact SP.panicErr _ | (intro _) | (refine SP.bind ?_ ?_) | split | dsimp only

theorem SP.unary (op : UnOp) (x : Value) : SP P (Op.unary op x) := by
  unfold Op.unary
  split <;> first | exact SP.pure _ | exact SP.halt _ | exact SP.intArith _ _ _ _ | exact SP.intBits _ _ _ _

theorem SP.boolOf {s : Sem Bool} {f : Bool → Value} (h : SP P s) : SP P (do Pure.pure (f (← s))) := SP.bind h fun _ => SP.pure _
theorem SP.equalIn (d : Nat) (t : TypeId) {x y : Value} (h : pairV x y = true) : SP P (Op.equalIn (d + 1) t x y) := by
  unfold Op.equalIn
  refine SP.bind (SP.underlying t) fun u => ?_
  split <;> first
    | exact SP.pure _ | exact SP.halt _ | exact SP.stuck _
    | (split <;> first | exact SP.pure _ | exact SP.halt _ | exact SP.stuck _)
    | (rename_i a b; cases a <;> cases b <;> first | exact SP.pure _ | simp [pairV] at h)
    | (simp [pairV] at h; done)
theorem SP.binOp {x y : Value} (op : BinOp) (t : TypeId) (h : pairV x y = true) : SP P (Go.binOp op t x y) := by
  unfold Go.binOp
  split <;> first
    | exact SP.shift _ _ _ _ _
    | exact SP.stringOp _ _ _
    | exact SP.boolOf (SP.equalIn 9999 t h)
    | exact SP.halt _ | exact SP.stuck _ | exact SP.unsupported _
    | (simp [pairV] at h; done)
    | (split <;> first | exact SP.halt _ | exact SP.stuck _ | (split <;> first | exact SP.intArith _ _ _ _ | exact SP.intDiv _ _ _ _ | exact SP.intBits _ _ _ _ | exact SP.intCmp _ _ _))
theorem SP.eqGuard {x y : Value} (op : BinOp) (t : TypeId) (a b : Operand) (h : pairV x y = true) : SP P (Go.eqGuard op t a b x y) := by
  unfold Go.eqGuard
  cases x <;> cases y <;> first | (simp [pairV] at h; done) | skip
  all_goals
    dsimp only
    split <;> exact SP.pure _
theorem SP.convertInt (s t : TypeId) {k : IntKind} {x : Value} (h : isInt x = true) (ht : P.underlying t = some (.int k)) : SP P (Go.convert s t x) := by
  cases x <;> simp [isInt] at h
  unfold Go.convert
  cases hs : P.underlying s with
  | none => exact .inr fun w => ⟨_, w, by simp [Go.underlying, hs, Go.stuck, Go.program, Sem.run]; rfl⟩
  | some d => exact .inl ⟨_, fun w => by simp [run_underlying hs, run_underlying ht]; rfl⟩
theorem SP.foldlM {f : Value → Value → Sem Value} (h : ∀ a b, isInt a = true → isInt b = true → ∃ c, isInt c = true ∧ f a b = Pure.pure c) : ∀ (l : List Value) (a : Value), isInt a = true → (∀ x ∈ l, isInt x = true) → SP P (l.foldlM f a)
  | [], a, _, _ => SP.pure _
  | b :: r, a, ha, hl => by
    obtain ⟨c, hc, e⟩ := h a b ha (hl b (by simp))
    rw [List.foldlM_cons, e]
    exact SP.foldlM h r c hc (fun x hx => hl x (by simp [hx]))
theorem SP.min_ (ts : Array TypeId) (t : TypeId) (args : Array Value) (h : ∀ x ∈ args.toList, isInt x = true) : SP P (Builtin.min_ ts t args) := by
  unfold Builtin.min_
  cases hl : args.toList with
  | nil => exact SP.halt _
  | cons x r =>
    rw [hl] at h
    refine SP.foldlM (fun a b ha hb => ?_) r x (h x (by simp)) (fun y hy => h y (by simp [hy]))
    cases a <;> simp [isInt] at ha
    cases b <;> simp [isInt] at hb
    exact ⟨_, rfl, rfl⟩
theorem SP.max_ (ts : Array TypeId) (t : TypeId) (args : Array Value) (h : ∀ x ∈ args.toList, isInt x = true) : SP P (Builtin.max_ ts t args) := by
  unfold Builtin.max_
  cases hl : args.toList with
  | nil => exact SP.halt _
  | cons x r =>
    rw [hl] at h
    refine SP.foldlM (fun a b ha hb => ?_) r x (h x (by simp)) (fun y hy => h y (by simp [hy]))
    cases a <;> simp [isInt] at ha
    cases b <;> simp [isInt] at hb
    exact ⟨_, rfl, rfl⟩
theorem SP.lenStr {ts : Array TypeId} {t : TypeId} {args : Array Value} {u : TypeDesc} {t0 : TypeId} (h0 : ts[0]? = some t0) (hu : P.underlying t0 = some u) (h : (∃ e, u = .slice e) ∨ u = .string) : SP P (Builtin.len_ ts t args) := by
  unfold Builtin.len_
  simp only [h0]
  split
  · rename_i a b hab
    obtain rfl : a = t0 := (by simpa using hab.symm : a = t0 ∧ some b = args[0]?).1
    rcases h with ⟨e, rfl⟩ | rfl
    · cases b <;> first | (exact .inl ⟨_, fun w => by simp [run_underlying hu]; rfl⟩) | (exact .inr fun w => ⟨_, w, by simp [run_underlying hu, Go.stuck, Sem.run]; rfl⟩)
    · cases b <;> first | (exact .inl ⟨_, fun w => by simp [run_underlying hu]; rfl⟩) | (exact .inr fun w => ⟨_, w, by simp [run_underlying hu, Go.stuck, Sem.run]; rfl⟩)
  · exact SP.halt _
theorem SP.capSl {ts : Array TypeId} {t : TypeId} {args : Array Value} {e : TypeId} {t0 : TypeId} (h0 : ts[0]? = some t0) (hu : P.underlying t0 = some (.slice e)) : SP P (Builtin.cap_ ts t args) := by
  unfold Builtin.cap_
  simp only [h0]
  split
  · rename_i a b hab
    obtain rfl : a = t0 := (by simpa using hab.symm : a = t0 ∧ some b = args[0]?).1
    cases b <;> first | (exact .inl ⟨_, fun w => by simp [run_underlying hu]; rfl⟩) | (exact .inr fun w => ⟨_, w, by simp [run_underlying hu, Go.stuck, Sem.run]; rfl⟩)
  · exact SP.halt _

theorem invoke_min (ρ : Operand → Value) (c : Call) (t : TypeId) (b : Builtin) (hc : c.callee = .builtin b) : (do let d ← resolve ρ c t; invoke d.target d.args) = builtin b c.argTypes t (c.args.map fun | .const _ => true | _ => false) (c.args.map ρ) := by
  simp only [resolve, hc]
  rfl

/-- What is of class 0 looks at no world, its operands being fit. -/
theorem execOp_still (o : Oper) (h : cls P o.op = 0) (hf : fitV o.op ρ = true) : SP P (execOp ρ o) ∧ ∀ w n w', (execOp ρ o).run P w = .ok n w' → ∃ v, n = .value v := by
  suffices hs : ∃ s : Sem Value, SP P s ∧ execOp ρ o = (do Pure.pure (Next.value (← s))) by
    obtain ⟨s, h1, h2⟩ := hs
    rw [h2]
    refine ⟨SP.val h1, fun w n w' hr => ?_⟩
    rcases h1 with ⟨v, hv⟩ | h1
    · simp [hv w] at hr
      exact ⟨v, hr.1.symm⟩
    · obtain ⟨x, w1, hx⟩ := h1 w
      simp [hx] at hr
  obtain ⟨dst, op, type, pos, after, guard⟩ := o
  dsimp only at h hf
  cases op <;> simp only [cls] at h <;> first | (exact absurd h (by decide)) | skip
  case move x => exact ⟨Pure.pure (ρ x), SP.pure _, rfl⟩
  case assign x => exact ⟨Pure.pure (ρ x), SP.pure _, rfl⟩
  case pick c a b => exact ⟨do Pure.pure (if ← asBool (ρ c) then ρ a else ρ b), SP.bind (SP.asBool _) (fun _ => SP.pure _), by simp only [execOp]; cases ρ c <;> rfl⟩
  case nilCheck x =>
    simp only [fitV] at hf
    simp only [execOp]
    cases hx : ρ x <;> rw [hx] at hf <;> simp [isPtr] at hf
    rename_i a
    cases a with
    | none => exact ⟨runtimePanic .nilDeref, .inr fun w => ⟨_, w, by simp [runtimePanic, goPanic, go_sem]; rfl⟩, rfl⟩
    | some a => exact ⟨Pure.pure (.pointer (some a)), SP.pure _, rfl⟩
  case extract x i => exact ⟨_, SP.extract _ _, rfl⟩
  case makeFunc f a b => exact ⟨_, SP.pure _, rfl⟩
  case unOp a b c => exact ⟨_, SP.unary _ _, rfl⟩
  case indexAddr a b c => exact ⟨_, SP.indexAt _ _ _, rfl⟩
  case slice a b c d e => exact ⟨_, SP.sliceAt _ _ _ _ _, rfl⟩
  case field a b c => exact ⟨_, SP.field _ _ _, rfl⟩
  case build a b => exact ⟨_, SP.build _ _, rfl⟩
  case makeInterface a b => exact ⟨_, SP.makeInterface _ _, rfl⟩
  case binOp op t x y yt => exact ⟨_, SP.bind (SP.eqGuard op t x y hf) (fun _ => SP.binOp op t hf), rfl⟩
  case fieldAddr s x f =>
    refine ⟨Instr.fieldAt s (ρ x) f, ?_, rfl⟩
    split at h
    · rename_i fs hs
      split at h
      · rename_i g hg
        split at h
        · rename_i i hi
          split at h
          · cases h
          · rename_i hz
            unfold Instr.fieldAt
            cases hx : ρ x with
            | pointer a =>
              cases a with
              | some a => exact .inl ⟨_, fun w => by simp [run_underlying hs, hg, Instr.sureAddr, fieldPlace, Go.sizeOf, Go.typeInfo, hi, hz, Go.program, Sem.run]; rfl⟩
              | none => exact .inr fun w => ⟨_, w, by simp [run_underlying hs, hg, Instr.sureAddr, Go.stuck, Sem.run]; rfl⟩
            | _ => exact .inr fun w => ⟨_, w, by simp [run_underlying hs, hg, Instr.sureAddr, Go.stuck, Sem.run]; rfl⟩
        · cases h
      · cases h
    · cases h
  case convert a b c =>
    split at h
    · rename_i k hk
      exact ⟨_, SP.convertInt a b hf hk, rfl⟩
    · cases h
  case call c =>
    obtain ⟨callee, args, ts⟩ := c
    cases callee <;> (try dsimp only at h) <;> first | (exact absurd h (by decide)) | skip
    rename_i b
    simp only [execOp]
    rw [invoke_min ρ _ type b rfl]
    cases b <;> (try dsimp only at h) <;> first | (exact absurd h (by decide)) | skip
    case len =>
      refine ⟨Builtin.len_ ts type (args.map ρ), ?_, rfl⟩
      cases h0 : ts[0]? with
      | none => rw [h0] at h; simp at h
      | some t0 =>
        rw [h0] at h
        simp only [Option.bind_some] at h
        split at h
        · rename_i e he; exact SP.lenStr h0 he (.inl ⟨e, rfl⟩)
        · rename_i he; exact SP.lenStr h0 he (.inr rfl)
        · cases h
    case cap =>
      refine ⟨Builtin.cap_ ts type (args.map ρ), ?_, rfl⟩
      cases h0 : ts[0]? with
      | none => rw [h0] at h; simp at h
      | some t0 =>
        rw [h0] at h
        simp only [Option.bind_some] at h
        split at h
        · rename_i e he; exact SP.capSl h0 he
        · cases h
    case min =>
      refine ⟨Builtin.min_ ts type (args.map ρ), SP.min_ _ _ _ (fun x hx => ?_), rfl⟩
      simp only [fitV, Array.all_eq_true_iff_forall_mem] at hf
      obtain ⟨y, hy, rfl⟩ := Array.mem_map.1 (Array.mem_toList_iff.1 hx)
      exact hf y hy
    case max =>
      refine ⟨Builtin.max_ ts type (args.map ρ), SP.max_ _ _ _ (fun x hx => ?_), rfl⟩
      simp only [fitV, Array.all_eq_true_iff_forall_mem] at hf
      obtain ⟨y, hy, rfl⟩ := Array.mem_map.1 (Array.mem_toList_iff.1 hx)
      exact hf y hy
  all_goals (first | (split at h <;> cases h) | skip)

theorem RP.bind {α β : Type} {s : Sem α} {f : α → Sem β} (h : RP P s) (hf : ∀ a, RP P (f a)) : RP P (s >>= f) := by
  intro w
  rcases h w with ⟨v, hv⟩ | ⟨x, w', hx⟩
  · rcases hf v w with ⟨u, hu⟩ | ⟨x, w', hx⟩
    · exact .inl ⟨u, by simp [hv, hu]⟩
    · exact .inr ⟨x, w', by simp [hv, hx]⟩
  · exact .inr ⟨x, w', by simp [hx]⟩
theorem SP.reads {α : Type} {s : Sem α} (h : SP P s) : RP P s := fun w => h.elim (fun ⟨v, hv⟩ => .inl ⟨v, hv w⟩) (fun h => .inr (h w))
theorem RP.load (a : Addr) : RP P (load a) := by
  intro w
  simp only [Go.load, Sem.run]
  split
  · exact .inl ⟨_, rfl⟩
  · split
    · exact .inl ⟨_, rfl⟩
    · exact .inr ⟨_, _, rfl⟩
theorem RP.loadCellsFrom (a : Addr) : ∀ (n i : Nat) (acc : Array Value), RP P (loadCellsFrom a i n acc)
  | 0, _, _ => (SP.pure _).reads
  | n + 1, i, acc => RP.bind (RP.load _) fun _ => RP.loadCellsFrom a n _ _
theorem RP.loadAt (t : TypeId) (x : Value) : RP P (Instr.loadAt t x) := by
  unfold Instr.loadAt
  refine RP.bind (SP.sureAddr x).reads fun a => ?_
  unfold loadVar
  refine RP.bind (SP.isAgg t).reads fun _ => ?_
  split
  · exact RP.bind (SP.sizeOf t).reads fun n => RP.bind (RP.loadCellsFrom a n 0 _) fun _ => (SP.pure _).reads
  · exact RP.load a
/-- What is of class 1 turns no world. -/
theorem execOp_reads (o : Oper) (h : cls P o.op = 1) : RP P (execOp ρ o) ∧ ∀ w n w', (execOp ρ o).run P w = .ok n w' → ∃ v, n = .value v := by
  obtain ⟨dst, op, type, pos, after, guard⟩ := o
  dsimp only at h
  cases op <;> simp only [cls] at h <;> first | (exact absurd h (by decide)) | skip
  case load t x =>
    refine ⟨RP.bind (RP.loadAt t (ρ x)) fun _ => (SP.pure _).reads, fun w n w' hr => ?_⟩
    rcases RP.loadAt (P := P) t (ρ x) w with ⟨v, hv⟩ | ⟨y, w1, hy⟩
    · simp [execOp, hv] at hr
      exact ⟨v, hr.1.symm⟩
    · simp [execOp, hy] at hr
  case fieldAddr => repeat' (split at h <;> first | (cases h; done) | skip)
  case convert => split at h <;> cases h
  case call c =>
    obtain ⟨callee, args, ts⟩ := c
    cases callee <;> (try dsimp only at h) <;> first | (exact absurd h (by decide)) | skip
    rename_i b
    cases b <;> (try dsimp only at h) <;> first | (exact absurd h (by decide)) | skip
    all_goals (split at h <;> cases h)
end

end Go.Proofs.Ytnfecdjcddidgaa
