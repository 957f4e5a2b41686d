/- What the law's argument reads as: a list of acts. -/
import Derived.Test.YtnfecdjcddidgaaLawD
namespace Go.Proofs.Ytnfecdjcddidgaa
open Go.RowKit Go.Maps

structure Act14 where
  kind : Int
  file : Int
  L : List (List UInt8)
  N : Int
  T : List Tail

def Ract : Rdr Act14 where
  sz := 5
  K := fun F w x cs => ∃ Al cl At ct, cs = [.int .i64 x.kind, .int .i64 x.file, .slice Al x.L.length cl, .int .i64 x.N, .slice At x.T.length ct] ∧ (Lit.int .i64 x.kind).wf = true ∧ (Lit.int .i64 x.file).wf = true ∧ (Lit.int .i64 x.N).wf = true ∧
    x.L.length ≤ 140737488351232 ∧ x.T.length ≤ 140737488351232 ∧ SC Rbytes F w Al x.L ∧ SC Rtail F w At x.T
  len := by rintro F w x cs ⟨_, _, _, _, rfl, _⟩; rfl
  frame := by
    rintro F w x cs w' ⟨Al, cl, At, ct, rfl, h1, h2, h3, h4, h5, h6, h7⟩ hw
    exact ⟨Al, cl, At, ct, rfl, h1, h2, h3, h4, h5, h6.frame (by decide) hw, h7.frame (by decide) hw⟩
  mono := by
    rintro F F' w x cs ⟨Al, cl, At, ct, rfl, h1, h2, h3, h4, h5, h6, h7⟩ s
    exact ⟨Al, cl, At, ct, rfl, h1, h2, h3, h4, h5, h6.mono (by decide) s, h7.mono (by decide) s⟩

theorem opens_to {α β : Type} {d : Rdr α} {d' : Rdr β} {P : Program} {t : TypeId} (h : d.Opens P t) (hs : d.sz = d'.sz) (hk : ∀ F w a cs, d.K F w a cs → ∃ b, d'.K F w b cs) : d'.Opens P t :=
  ⟨h.1.trans hs, fun H enc w sp held n cs x hx hm => by obtain ⟨a, ha⟩ := h.2 H enc w sp held n cs x hx hm; exact hk _ _ _ _ ha⟩

theorem opens5 : Rdr.byte.Opens Try.prog 5 := opens_byte Try.underlying5 (by kernel_rfl)
theorem opens3 : (Rdr.int .i64).Opens Try.prog 3 := opens_int Try.underlying3 (by kernel_rfl)
theorem opens39 : Rbytes.Opens Try.prog 39 := opens_slice Try.underlying39 (by kernel_rfl) (by decide +kernel) (by decide) opens5
theorem opens32 : Rlists.Opens Try.prog 32 := opens_slice Try.underlying32 (by kernel_rfl) (by decide +kernel) (by decide) opens39
theorem opens67 : Rtail.Opens Try.prog 67 := by
  refine opens_to (d := (Rdr.int .i64).pair ((Rdr.int .i64).pair Rdr.byte)) ?_ rfl ?_
  · exact opens_struct Try.underlying67 (by kernel_rfl) (opens_field opens3 rfl (opens_field opens3 rfl (opens_last opens5 rfl)))
  · rintro F w ⟨a, b, c⟩ cs ⟨c1, c2, rfl, ⟨rfl, h1⟩, c3, c4, rfl, ⟨rfl, h2⟩, h3⟩
    have h3' : c4 = [.int .u8 (c.toNat : Int)] := h3
    subst h3'
    exact ⟨⟨a, b, c⟩, rfl, h1, h2⟩
theorem opens33 : (Rtail.slice (by decide)).Opens Try.prog 33 := opens_slice Try.underlying33 (by kernel_rfl) (by decide +kernel) (by decide) opens67
theorem opens35 : Ract.Opens Try.prog 35 := by
  refine opens_to (d := (Rdr.int .i64).pair ((Rdr.int .i64).pair (Rlists.pair ((Rdr.int .i64).pair (Rtail.slice (by decide)))))) ?_ rfl ?_
  · exact opens_struct Try.underlying35 (by kernel_rfl) (opens_field opens3 rfl (opens_field opens3 rfl (opens_field opens32 rfl (opens_field opens3 rfl (opens_last opens33 rfl)))))
  · rintro F w ⟨a, b, c, d, e⟩ cs ⟨c1, c2, rfl, ⟨rfl, h1⟩, c3, c4, rfl, ⟨rfl, h2⟩, c5, c6, rfl, ⟨Al, cl, rfl, k1, k2, k3⟩, c7, c8, rfl, ⟨rfl, h4⟩, ⟨At, ct, rfl, k4, k5, k6⟩⟩
    exact ⟨⟨a, b, c, d, e⟩, Al, cl, At, ct, rfl, h1, h2, h4, k2, k5, k3, k6⟩
theorem opens22 : (Ract.slice (by decide)).Opens Try.prog 22 := opens_slice Try.underlying22 (by kernel_rfl) (by decide +kernel) (by decide) opens35
end Go.Proofs.Ytnfecdjcddidgaa
