/- Rows of some bytes of one's own, each byte of which may be turned. -/
import Derived.Test.YtnfecdjcddidgaaLawT
namespace Go.Proofs.Ytnfecdjcddidgaa
open Go.RowKit Go.Maps

/-- p is a row of n bytes of one's own that lay there at S. -/
def Bys (w : World) (B S : Nat) (p : Value) (n : Nat) : Prop := ∃ xs : List UInt8, xs.length = n ∧ w.ownsRow B 5 1 p n (bcells xs) ∧ ∀ k, p.ownBlock = some k → k < S
/-- .. a row of such rows. -/
def GS (w : World) (B S : Nat) (v : Value) (bs : List (List UInt8)) : Prop :=
  ∃ ps : List Value, w.ownsRow B 39 1 v bs.length ps ∧ (∀ k, v.ownBlock = some k → k < S) ∧ ∀ k (hk : k < bs.length), ∃ p, ps[k]? = some p ∧ Bys w B S p bs[k].length

theorem GB.some {w : World} {B : Nat} {v : Value} {bs : List (List UInt8)} (h : GB w B v bs) : GS w B w.heap.size v bs := by
  obtain ⟨ps, h1, h2⟩ := h
  refine ⟨ps, h1, fun k hk => (h1.lt k hk).2, fun k hk => ?_⟩
  obtain ⟨p, hp, ho⟩ := h2 k hk
  exact ⟨p, hp, bs[k], rfl, ho, fun k hk => (ho.lt k hk).2⟩
theorem Bys.kept {w w' : World} {B S n : Nat} {p : Value} (h : Bys w B S p n) {M : Nat → Prop} (hm : Mod M w w') (hM : ∀ k, M k → B ≤ k → S ≤ k) : Bys w' B S p n := by
  obtain ⟨xs, h1, h2, h3⟩ := h
  exact ⟨xs, h1, own_kept h2 hm (fun k hk hmk => by have a := (h2.lt k hk).1; have b := h3 k hk; have := hM k hmk a; omega), h3⟩
theorem GS.kept {w w' : World} {B S : Nat} {v : Value} {bs : List (List UInt8)} (h : GS w B S v bs) {M : Nat → Prop} (hm : Mod M w w') (hM : ∀ k, M k → B ≤ k → S ≤ k) : GS w' B S v bs := by
  obtain ⟨ps, h1, h2, h3⟩ := h
  refine ⟨ps, own_kept h1 hm (fun k hk hmk => by have a := (h1.lt k hk).1; have b := h2 k hk; have := hM k hmk a; omega), h2, fun k hk => ?_⟩
  obtain ⟨p, hp, ho⟩ := h3 k hk
  exact ⟨p, hp, ho.kept hm hM⟩
theorem GS.form {w : World} {B S : Nat} {v : Value} {bs : List (List UInt8)} (h : GS w B S v bs) : ∃ A c, v = .slice A bs.length c ∧ bs.length ≤ c := by
  obtain ⟨ps, h1, _⟩ := h
  obtain ⟨A, c, rfl, hc, _⟩ := own_form h1
  exact ⟨A, c, rfl, hc⟩
/-- Element k. -/
theorem GS.at_ {w : World} {B S : Nat} {A : Option Addr} {n c : Nat} {bs : List (List UInt8)} (h : GS w B S (.slice A n c) bs) {k : Nat} (hk : k < bs.length) :
    ∃ g Ap cp, A = some ⟨g, 0, none⟩ ∧ B ≤ g ∧ g < S ∧ w.cell? ⟨g, k, none⟩ = some (.slice Ap bs[k].length cp) ∧ bs[k].length ≤ cp ∧
      ∀ j, j < bs[k].length → ∃ q, ∃ x : UInt8, Ap = some ⟨q, 0, none⟩ ∧ B ≤ q ∧ q < S ∧ w.cell? ⟨q, j, none⟩ = some (.int .u8 (x.toNat : Int)) ∧ w.frozen? ⟨q, j, none⟩ = false := by
  obtain ⟨ps, h1, h2, h3⟩ := h
  obtain ⟨p, hp, xs, hx, ho, hS⟩ := h3 k hk
  rcases h1.2 with ⟨_, h0⟩ | ⟨g, cap, cur, hv, _⟩
  · omega
  · cases hv
    obtain ⟨Ap, cp, rfl, hcp, _⟩ := own_form ho
    have hc := h1.cells (g := g) rfl k _ hp
    rw [addr_add, Nat.zero_add] at hc
    refine ⟨g, Ap, cp, rfl, (h1.lt g rfl).1, h2 g rfl, hc, hcp, fun j hj => ?_⟩
    rcases ho.2 with ⟨_, h0⟩ | ⟨q, cap', cur', hv', _⟩
    · omega
    · cases hv'
      have hj' : j < xs.length := by omega
      have hc' := ho.cells (g := q) rfl j _ (bcells_get hj')
      rw [addr_add, Nat.zero_add] at hc'
      exact ⟨q, xs[j], rfl, (ho.lt q rfl).1, hS q rfl, hc', own_frozen ho rfl⟩
/-- A byte is set. -/
theorem Bys.turn {w : World} {B S n : Nat} {p : Value} (h : Bys w B S p n) (q j : Nat) (x : UInt8) : Bys (w.setCell ⟨q, j, none⟩ (.int .u8 (x.toNat : Int))) B S p n := by
  obtain ⟨xs, h1, h2, h3⟩ := h
  by_cases hq : p.ownBlock = some q
  · have := own_set (i := j) h2 hq (.int .u8 (x.toNat : Int))
    rw [bcells_set] at this
    exact ⟨_, by rw [List.length_set]; exact h1, this, h3⟩
  · exact ⟨xs, h1, own_kept h2 ((Mod.refl (· = q) w).setCell (p := ⟨q, j, none⟩) (.inl rfl) _) (fun k hk e => hq (e ▸ hk)), h3⟩
theorem GS.turn {w : World} {B S : Nat} {v : Value} {bs : List (List UInt8)} (h : GS w B S v bs) (q j : Nat) (x y : UInt8) (hq : w.cell? ⟨q, j, none⟩ = some (.int .u8 (y.toNat : Int))) (hv : v.ownBlock ≠ some q) : GS (w.setCell ⟨q, j, none⟩ (.int .u8 (x.toNat : Int))) B S v bs := by
  obtain ⟨ps, h1, h2, h3⟩ := h
  refine ⟨ps, own_kept h1 ((Mod.refl (· = q) w).setCell (p := ⟨q, j, none⟩) (.inl rfl) _) (fun k hk e => hv (e ▸ hk)), h2, fun k hk => ?_⟩
  obtain ⟨p, hp, ho⟩ := h3 k hk
  exact ⟨p, hp, ho.turn q j x⟩
/-- The row of rows is no row of bytes. -/
theorem GS.apart {w : World} {B S : Nat} {g n c : Nat} {bs : List (List UInt8)} (h : GS w B S (.slice (some ⟨g, 0, none⟩) n c) bs) {k q j cp m : Nat} {o : Nat} (hk : k < bs.length) (hc : w.cell? ⟨g, k, none⟩ = some (.slice (some ⟨q, o, none⟩) m cp)) {x : UInt8} (hj : w.cell? ⟨q, j, none⟩ = some (.int .u8 (x.toNat : Int))) : g ≠ q := by
  rintro rfl
  obtain ⟨ps, h1, h2, h3⟩ := h
  obtain ⟨p, hp, xs, hx, ho, hS⟩ := h3 k hk
  have hc' := h1.cells (g := g) rfl k _ hp
  rw [addr_add, Nat.zero_add, hc] at hc'
  cases hc'
  obtain ⟨cs, hcs⟩ := own_block h1 (b := g) rfl
  exact ne_own hcs ho (by decide) rfl
theorem xor_85 (x : UInt8) : bits .xor .u8 (x.toNat : Int) 85 = ((x ^^^ 85).toNat : Int) := xor_u8 x 85

/-- What is turned there leaves both drums alone. -/
theorem Pairing.aside {w0 w w' : World} {d m r : Nat} {fs : List DF} {gs : List RF} {lv : Value} {L L' : List PF} {s s' : DSt} (h : Pairing w0 w d m r fs gs lv L L' s s') {M : Nat → Prop} (hm : Mod M w w') (h0 : ∀ k, M k → w0.heap.size ≤ k) (hd : ∀ k ∈ Dr.foot d m fs, ¬ M k) (hr : ∀ k ∈ Rf.foot r lv gs, ¬ M k) : Pairing w0 w' d m r fs gs lv L L' s s' :=
  ⟨h.dr.kept hm hd, h.rf.kept hm hr, h.dl, h.rl, h.apart, h.dnew, h.rnew, h.md.trans hm (fun _ h => h.elim) (fun k hk => .inr (h0 k hk))⟩

/-- .. with what is told of the feet. -/
theorem Pairing.drum' {w0 w w' : World} {d m r : Nat} {fs : List DF} {gs : List RF} {lv : Value} {L L' : List PF} {s s' : DSt} {k : Step} (h : Pairing w0 w d m r fs gs lv L L' s s') (hd : Did d m fs w w' k) :
    ∃ fs', Pairing w0 w' d m r fs' gs lv k.L L' k.s s' ∧ (∀ b ∈ Dr.foot d m fs', b ∈ Dr.foot d m fs ∨ w.heap.size ≤ b) ∧ Mod (fun b => b ∈ Dr.foot d m fs) w w' := by
  have hd' := hd
  obtain ⟨fs', h1, h2, h3, h4⟩ := hd'
  refine ⟨fs', ⟨h1, h.rf.kept h3 (fun b hb hk => h.apart b hk hb), h2, h.rl, fun b hb hr => ?_, fun b hb => ?_, h.rnew, h.md.trans h3 (fun _ h => h.elim) (fun b hb => .inr (h.dnew b hb))⟩, h4, h3⟩
  · rcases h4 b hb with hb | hb
    · exact h.apart b hb hr
    · have := h.rf.lt hr; omega
  · rcases h4 b hb with hb | hb
    · exact h.dnew b hb
    · exact Nat.le_trans h.md.size hb
theorem Pairing.ref' {w0 w w' : World} {d m r : Nat} {fs : List DF} {gs : List RF} {lv : Value} {L L' : List PF} {s s' : DSt} {k : Step} (h : Pairing w0 w d m r fs gs lv L L' s s') (hd : RDid r lv gs w w' k) :
    ∃ gs' lv', Pairing w0 w' d m r fs gs' lv' L k.L s k.s ∧ (∀ b ∈ Rf.foot r lv' gs', b ∈ Rf.foot r lv gs ∨ w.heap.size ≤ b) ∧ Mod (fun b => b ∈ Rf.foot r lv gs) w w' := by
  obtain ⟨lv', gs', h1, h2, h3, h4⟩ := hd
  refine ⟨gs', lv', ⟨h.dr.kept h3 (fun b hb hk => h.apart b hb hk), h1, h.dl, h2, fun b hb hr => ?_, h.dnew, fun b hb => ?_, h.md.trans h3 (fun _ h => h.elim) (fun b hb => .inr (h.rnew b hb))⟩, h4, h3⟩
  · rcases h4 b hr with hr | hr
    · exact h.apart b hb hr
    · have := h.dr.lt hb; omega
  · rcases h4 b hb with hb | hb
    · exact h.rnew b hb
    · exact Nat.le_trans h.md.size hb
end Go.Proofs.Ytnfecdjcddidgaa
