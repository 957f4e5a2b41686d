/- DrumPlays returns true for every room and every list of acts, where room and acts are together of bulk at most 1048576 (the statement's second form, by size). No further condition. -/
import Derived.Test.YtnfecdjcddidgaaLawI
import Derived.Test.YtnfecdjcddidgaaBulk
import Derived.Deep.CondSized
import Derived.JoinedCond
import Derived.ProofKit
import Derived.OpenShut
import Derived.Carry
namespace Go.Proofs.Ytnfecdjcddidgaa.drumPlays
open Go.ChangeShapes Go.WideShapes Go.ChangeAt Go.RowKit

theorem own : ownKnob Try.prog.godebug = none := by kernel_rfl
theorem laidOut : laidOutB Try.prog = true := by kernel_rfl

theorem acts_fair {l : List Act14} {n : Nat} (h : muActs l ≤ n) (hn : n ≤ 1048576) : ∀ a ∈ l, Fair a := by
  intro a ha
  have h1 : muAct a ≤ (l.map muAct).sum := sum_mem ha
  have h2 := muRows_eq a.L
  have h3 := muTails_eq a.T
  unfold muActs at h
  have h4 : muAct a = 1 + (1 + (muRows a.L + (1 + muTails a.T))) := rfl
  refine ⟨⟨by omega, by omega, fun x hx => ?_⟩, by omega⟩
  have := (List.sublist_flatten_of_mem hx).length_le
  omega

theorem walk {w : World} {F : Nat → Prop} {A : Option Addr} {c : Nat} {l : List Act14} {room : Int} (hF : ∀ b, F b → b < w.heap.size) (hS : SC Ract F w A l) (hl : l.length ≤ 140737488351232) (hsh : ∀ a ∈ l, Fair a) :
    Calls Try.prog 3 #[.int .i64 room, .slice A l.length c] w fun e w' => e = .returned (.bool true) ∧ Mod Nil w w' := by
  cases hb : smallB l with
  | false => exact plays_small hF hS hl hsh hb
  | true =>
    by_cases h1 : 0 ≤ room ∧ room ≤ 4194304
    · exact plays_main hF hS hl hsh hb h1.1 h1.2
    · exact plays_room hF hS hl hsh hb (by omega)

theorem small_second {H : Type} {d0 d1 : DataW H} {gs : List (DataW H)} (hk : Rows.uptoSmall H ((d0 :: d1 :: []) ++ gs) = true) : Rows.uptoBulk d1 ≤ 1048576 := by
  have h : Rows.uptoBulkAll ((d0 :: d1 :: []) ++ gs) ≤ 1048576 := of_decide_eq_true hk
  simp only [List.cons_append, List.nil_append, Rows.uptoBulkAll] at h
  omega

set_option maxRecDepth 100000 in
theorem contract (H : Type) (enc : TypeId × Value → H) (W : World) (base : Nat) (args : Array Value) (ds gs : List (DataW H)) (before : List MemPlace)
    (hval : ∀ (j : Nat) t v, Try.f3.params[j]? = some t → args[j]? = some v → Value.okWide Try.prog W .any base t v)
    (hW : DataW.Whole enc Try.prog Try.f3.params.toList Rows.drumPlaysSpec.vars false W args.toList ds gs before) (hk : Rows.uptoSmall H (ds ++ gs) = true)
    (hsz : (DataW.weightsEach Try.prog (Try.f3.params.toList ++ Rows.drumPlaysSpec.plain.varTypes Try.prog) (ds ++ gs)).all (· ≤ reachBytes) = true) :
    Calls Try.prog 3 args W fun e W' => ∃ v, e = .returned v ∧ Rows.drumPlaysSpec.post enc Try.prog Try.f3 false true false false W args v W' := by
  have hW' := hW
  obtain ⟨p, q, hA0, hV, rfl, hfz, hnd⟩ := hW
  have hA : DataW.TrodAll enc Try.prog W 0 (fun _ => true) true Try.f3.params.toList args.toList ds p := hA0
  rw [Try.params3] at hA hval hsz
  obtain ⟨v0, vs0, d0, ds0, p0, q0, hargs, rfl, rfl, h0, r0⟩ := trodAll_cons hA
  obtain ⟨v1, vs1, d1, ds1, p1, q1, rfl, rfl, rfl, h1, r1⟩ := trodAll_cons r0
  obtain ⟨rfl, rfl, rfl⟩ := trodAll_nil r1
  obtain rfl : args = #[v0, v1] := by cases args; simp_all
  obtain ⟨rfl, rfl⟩ := trodVars_none hV
  obtain ⟨a0, rfl, rfl, rfl, w0⟩ := open_int Try.underlying3 (hval 0 3 v0 rfl rfl) h0
  obtain ⟨A1, len1, c1, rfl⟩ := okWide_slice Try.underlying22 (hval 1 22 v1 rfl rfl)
  have k1 := h1
  have lt1 : ∀ x ∈ p1, x.block < W.heap.size := by obtain ⟨m, hm⟩ := k1; exact DataW.trod_lt m _ _ _ hm
  have hb : Rows.uptoBulk d1 ≤ 1048576 := small_second hk
  have hwt : ∀ m ∈ d1.weights Try.prog 22, m ≤ reachBytes := by
    intro m hm
    have h := List.all_eq_true.1 hsz m (by
      simp only [List.append_nil, List.cons_append, List.nil_append, DataW.weightsEach, List.mem_append]
      exact .inr (.inl hm))
    simpa using h
  obtain ⟨l, hl, hS, hmu⟩ : ∃ l : List Act14, (len1 = l.length ∧ l.length ≤ 140737488351232) ∧ SC Ract (fun b => b < W.heap.size) W A1 l ∧ muActs l ≤ 1048576 := by
    obtain ⟨m, hm⟩ := k1
    obtain ⟨l, ⟨A, c, hcs, _, hl, hS⟩, hmu⟩ := opensB22.2 H enc W _ _ m _ _ hm hwt
    simp [Value.cells] at hcs
    obtain ⟨rfl, rfl, rfl⟩ := hcs
    exact ⟨l, ⟨rfl, hl⟩, hS, Nat.le_trans hmu hb⟩
  obtain ⟨rfl, hl⟩ := hl
  clear hA0 hsz hk
  refine (walk (room := a0) (c := c1) (fun b hb => hb) hS hl (acts_fair hmu (Nat.le_refl _))).mono fun e W' ⟨he, hm⟩ => ?_
  subst he
  have bel := hm.nil_below
  exact ⟨_, rfl, _, _, _, [], _, [], hW', trodAll_mk1 (shut_bool Try.underlying4 _), (trodAll_cons_mk (shut_int Try.underlying3 w0) (trodAll_cons_mk (Below.trod laidOut (by kernel_rfl) (of_decide_eq_true (by kernel_rfl)) k1 bel lt1) trodAll_mk0)), rfl, bel.frame _, fun h => by cases h⟩

set_option maxRecDepth 100000 in
theorem lifted (os : Os) (started : os.Started) (H : Type) (enc : TypeId × Value → H) (F : Stop.Interp) :
    ReturnsInHanded {} Try.checked os 3 .any ((Rows.OpenSpec.upto Rows.drumPlaysSpec).pre6 enc Try.prog Try.f3 Rows.drumPlaysUptoRow.domain false) (((Rows.OpenSpec.upto Rows.drumPlaysSpec).at F).post enc Try.prog Try.f3 false true false false) := by
  refine returnsInHanded_of_cond_sized (C := Try.checked) (s := Rows.OpenSpec.upto Rows.drumPlaysSpec) (k := Rows.uptoSmall) rfl own started (by kernel_rfl) Try.func3
    (OpenSpec.witness (enc := enc) (C := Try.checked) (s := Rows.OpenSpec.upto Rows.drumPlaysSpec) (k := Rows.uptoSmall) rfl false ⟨#[], #[.int .i64 0, .slice none 0 0], []⟩ 8 (by kernel_rfl) (by kernel_rfl) (by kernel_rfl)
      (x := ([.lit (.int .i64 0), .nil], [], [])) (by kernel_rfl) rfl (by kernel_rfl)) ?_
  intro W base args ds gs before hval hW _ hk hsz _
  exact contract H enc W base args ds gs before hval hW hk hsz

theorem over : Rows.drumPlaysUptoRow.holds Try.pinned (Rows.OpenSpec.upto Rows.drumPlaysSpec) :=
  OpenClaim.holds_of_cond 3 Try.f3 rfl rfl rfl rfl rfl rfl rfl ⟨rfl, rfl, rfl, rfl, rfl⟩ rfl rfl rfl rfl rfl (by kernel_rfl) Try.func3 (by kernel_rfl)
    (of_decide_eq_true (by kernel_rfl)) (by unfold Func.isWrapper; first | (rw [if_pos (by decide +kernel)]; kernel_rfl) | (rw [if_neg (by decide +kernel)]; exact ⟨rfl, rfl⟩))
    (fun os started H enc _ F => lifted os started H enc F)
end Go.Proofs.Ytnfecdjcddidgaa.drumPlays
namespace Go.Proofs.Ytnfecdjcddidgaa
/-- The row, under a short name, for the claim. -/
theorem drumPlays_upto : Rows.DrumPlaysUptoSaid := drumPlays.over
#print axioms drumPlays_upto
end Go.Proofs.Ytnfecdjcddidgaa
