/- Both drums side by side. -/
import Derived.Test.YtnfecdjcddidgaaLawF
namespace Go.Proofs.Ytnfecdjcddidgaa
open Go.RowKit Go.Maps

/-- The drum and the document's drum, apart from each other and from all that lay there at w0; the drum at L, s; the document's at L', s'. -/
structure Pairing (w0 w : World) (d m r : Nat) (fs : List DF) (gs : List RF) (lv : Value) (L L' : List PF) (s s' : DSt) : Prop where
  dr : Dr w d m fs s
  rf : Rf w r lv gs s'
  dl : absd fs = L
  rl : rabs gs = L'
  apart : ∀ k, k ∈ Dr.foot d m fs → k ∉ Rf.foot r lv gs
  dnew : ∀ k, k ∈ Dr.foot d m fs → w0.heap.size ≤ k
  rnew : ∀ k, k ∈ Rf.foot r lv gs → w0.heap.size ≤ k
  md : Mod Nil w0 w

theorem Pairing.kept {w0 w w' : World} {d m r : Nat} {fs : List DF} {gs : List RF} {lv : Value} {L L' : List PF} {s s' : DSt} (h : Pairing w0 w d m r fs gs lv L L' s s') (hm : Mod Nil w w') : Pairing w0 w' d m r fs gs lv L L' s s' :=
  ⟨h.dr.kept hm (fun _ _ h => h), h.rf.kept hm (fun _ _ h => h), h.dl, h.rl, h.apart, h.dnew, h.rnew, h.md.then hm⟩

/-- The drum does a step. -/
theorem Pairing.drum {w0 w w' : World} {d m r : Nat} {fs : List DF} {gs : List RF} {lv : Value} {L L' : List PF} {s s' : DSt} {k : Step} (h : Pairing w0 w d m r fs gs lv L L' s s') (hd : Did d m fs w w' k) :
    ∃ fs', Pairing w0 w' d m r fs' gs lv k.L L' k.s s' := by
  obtain ⟨fs', h1, h2, h3, h4⟩ := hd
  refine ⟨fs', h1, h.rf.kept h3 (fun b hb hk => h.apart b hk hb), h2, h.rl, fun b hb hr => ?_, fun b hb => ?_, h.rnew, h.md.trans h3 (fun _ h => h.elim) (fun b hb => .inr (h.dnew b hb))⟩
  · rcases h4 b hb with hb | hb
    · exact h.apart b hb hr
    · have := h.rf.lt hr; omega
  · rcases h4 b hb with hb | hb
    · exact h.dnew b hb
    · exact Nat.le_trans h.md.size hb
/-- The document's drum does a step. -/
theorem Pairing.ref {w0 w w' : World} {d m r : Nat} {fs : List DF} {gs : List RF} {lv : Value} {L L' : List PF} {s s' : DSt} {k : Step} (h : Pairing w0 w d m r fs gs lv L L' s s') (hd : RDid r lv gs w w' k) :
    ∃ gs' lv', Pairing w0 w' d m r fs gs' lv' L k.L s k.s := by
  obtain ⟨lv', gs', h1, h2, h3, h4⟩ := hd
  refine ⟨gs', lv', h.dr.kept h3 (fun b hb hk => h.apart b hb hk), h1, h.dl, h2, fun b hb hr => ?_, h.dnew, fun b hb => ?_, h.md.trans h3 (fun _ h => h.elim) (fun b hb => .inr (h.rnew b hb))⟩
  · rcases h4 b hr with hr | hr
    · exact h.apart b hb hr
    · have := h.dr.lt hb; omega
  · rcases h4 b hb with hb | hb
    · exact h.rnew b hb
    · exact Nat.le_trans h.md.size hb
/-- Both crash. -/
theorem Pairing.drumCrash {w0 w w' : World} {d m r : Nat} {fs fs' : List DF} {gs : List RF} {lv : Value} {L L' L2 : List PF} {s s' s2 : DSt} (h : Pairing w0 w d m r fs gs lv L L' s s') (h1 : Dr w' d m fs' s2) (h2 : absd fs' = L2) (h3 : Mod (fun b => b ∈ Dr.foot d m fs) w w') (h4 : ∀ b ∈ Dr.foot d m fs', b ∈ Dr.foot d m fs ∨ w.heap.size ≤ b) :
    Pairing w0 w' d m r fs' gs lv L2 L' s2 s' := by
  obtain ⟨fs2, k⟩ := h.drum (k := ⟨0, L2, s2⟩) ⟨fs', h1, h2, h3, h4⟩
  exact ⟨h1, k.rf, h2, k.rl, fun b hb hr => by
    rcases h4 b hb with hb | hb
    · exact h.apart b hb hr
    · have := h.rf.lt hr; omega, fun b hb => by
    rcases h4 b hb with hb | hb
    · exact h.dnew b hb
    · exact Nat.le_trans h.md.size hb, k.rnew, k.md⟩
theorem Pairing.refCrash {w0 w w' : World} {d m r : Nat} {fs : List DF} {gs gs' : List RF} {lv lv' : Value} {L L' L2 : List PF} {s s' s2 : DSt} (h : Pairing w0 w d m r fs gs lv L L' s s') (h1 : Rf w' r lv' gs' s2) (h2 : rabs gs' = L2) (h3 : Mod (· = r) w w') (h4 : ∀ b ∈ Rf.foot r lv' gs', b = r ∨ w.heap.size ≤ b) :
    Pairing w0 w' d m r fs gs' lv' L L2 s s2 := by
  have hr : r ∈ Rf.foot r lv gs := foot_r
  refine ⟨h.dr.kept h3 (fun b hb e => h.apart b hb (e ▸ hr)), h1, h.dl, h2, fun b hb hb' => ?_, h.dnew, fun b hb => ?_, h.md.trans h3 (fun _ h => h.elim) (fun b hb => .inr (hb ▸ h.rnew r hr))⟩
  · rcases h4 b hb' with e | e
    · exact h.apart b hb (e ▸ hr)
    · have := h.dr.lt hb; omega
  · rcases h4 b hb with e | e
    · exact e ▸ h.rnew r hr
    · exact Nat.le_trans h.md.size e

/-- The document's drum is set. -/
theorem Pairing.refCrash' {w0 w w' : World} {d m r : Nat} {fs : List DF} {gs : List RF} {lv : Value} {L L' L2 : List PF} {s s' s2 : DSt} (h : Pairing w0 w d m r fs gs lv L L' s s') (h1 : Rf w' r lv gs s2) (h2 : rabs gs = L2) (h3 : Mod (· = r) w w') : Pairing w0 w' d m r fs gs lv L L2 s s2 :=
  ⟨h.dr.kept h3 (fun b hb e => h.apart b hb (e ▸ foot_r)), h1, h.dl, h2, h.apart, h.dnew, h.rnew, h.md.trans h3 (fun _ h => h.elim) (fun b hb => .inr (hb ▸ h.rnew r foot_r))⟩
/-- An operation leaves the power's count in its bounds, and counts itself at most once. -/
theorem gated_bounds {n : Int} {L : List PF} {s : DSt} {F : DSt → Step} (hl : -9223372036854775808 ≤ s.left ∧ s.left ≤ 9223372036854775807) (ho : 0 ≤ s.ops) (hF : ∀ s, (F s).s.left = s.left ∧ (F s).s.ops = s.ops) :
    (-9223372036854775808 ≤ (gated n L s F).s.left ∧ (gated n L s F).s.left ≤ 9223372036854775807) ∧ 0 ≤ (gated n L s F).s.ops ∧ (gated n L s F).s.ops ≤ s.ops + 1 := by
  unfold gated
  split
  · exact ⟨hl, ho, by show s.ops ≤ _; omega⟩
  · split
    · exact ⟨hl, ho, by show s.ops ≤ _; omega⟩
    · obtain ⟨h1, h2⟩ := hF (opers s)
      have e1 : (opers s).left = decL s.left := rfl
      have e2 : (opers s).ops = s.ops := rfl
      have hd : -9223372036854775808 ≤ decL s.left ∧ decL s.left ≤ 9223372036854775807 := by unfold decL; split <;> omega
      unfold bump
      split
      · refine ⟨?_, ?_, ?_⟩
        · show _ ≤ (F (opers s)).s.left ∧ (F (opers s)).s.left ≤ _
          rw [h1, e1]; exact hd
        · show 0 ≤ (F (opers s)).s.ops + 1
          rw [h2, e2]; omega
        · show (F (opers s)).s.ops + 1 ≤ _
          rw [h2, e2]; omega
      · rw [h1, h2, e1, e2]
        exact ⟨hd, ho, by omega⟩
theorem syncF_left (n : Int) (L : List PF) (s : DSt) : (syncF n L s).s.left = s.left := by unfold syncF; split <;> rfl
theorem delF_left (n : Int) (L : List PF) (s : DSt) : (delF n L s).s.left = s.left := by unfold delF; split <;> rfl
theorem appF_left (n : Int) (x : List UInt8) (L : List PF) (s : DSt) : (appF n x L s).s.left = s.left := by unfold appF; split <;> rfl
end Go.Proofs.Ytnfecdjcddidgaa
