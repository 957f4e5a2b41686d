/- The drum as a list of files: what an operation does to it, with no program in sight. -/
import Derived.Test.YtnfecdjcddidgaaDrumD
namespace Go.Proofs.Ytnfecdjcddidgaa
open Go.RowKit Go.Maps

structure PF where
  n : Int
  safe : List UInt8
  rest : List UInt8

def DF.abs (f : DF) : PF := ⟨f.n, f.safe, f.rest⟩
def absd (fs : List DF) : List PF := fs.map DF.abs
def PF.sz (f : PF) : Nat := f.safe.length + f.rest.length
def psum : List PF → Int
  | [] => 0
  | f :: r => f.sz + psum r
theorem psum_abs : ∀ fs : List DF, psum (absd fs) = dsum fs
  | [] => rfl
  | f :: r => by
    have := psum_abs r
    simp only [absd, List.map_cons, psum, dsum] at this ⊢
    rw [this]; rfl

structure Step where
  c : Int
  L : List PF
  s : DSt

def pget (n : Int) (L : List PF) : Option PF := L.find? fun f => f.n = n
def pins (n : Int) (x : List UInt8) : List PF → List PF
  | [] => [⟨n, [], x⟩]
  | f :: r => if f.n < n then f :: pins n x r else if f.n = n then ⟨f.n, f.safe, f.rest ++ x⟩ :: r else ⟨n, [], x⟩ :: f :: r
def pturn (n : Int) (g : PF → PF) (L : List PF) : List PF := L.map fun f => if f.n = n then g f else f
def pdrop (n : Int) (L : List PF) : List PF := L.filter fun f => f.n ≠ n
def PF.synced (f : PF) : PF := ⟨f.n, f.safe ++ f.rest, []⟩

def syncF (n : Int) (L : List PF) (s : DSt) : Step :=
  match pget n L with
  | none => ⟨7, L, s⟩
  | some _ => ⟨0, pturn n PF.synced L, s⟩
def delF (n : Int) (L : List PF) (s : DSt) : Step :=
  match pget n L with
  | none => ⟨7, L, s⟩
  | some f => ⟨0, pdrop n L, { s with free := s.free + f.sz }⟩
def appF (n : Int) (x : List UInt8) (L : List PF) (s : DSt) : Step :=
  if s.free < x.length then ⟨5, L, s⟩ else ⟨0, pins n x L, { s with free := s.free - x.length }⟩

def bump (k : Step) : Step := if k.c = 0 then { k with s := { k.s with ops := k.s.ops + 1 } } else k
/-- What an operation does: its errors first, then F. -/
def gated (n : Int) (L : List PF) (s : DSt) (F : DSt → Step) : Step :=
  if n < 1 ∨ 1000 < n then ⟨2, L, s⟩ else if s.dead = true ∨ s.left = 0 then ⟨140, L, { s with dead := true }⟩ else bump (F (opers s))

/-! ### Splits -/

theorem split_at : ∀ (fs : List DF) (n : Int), fs.Pairwise (fun f g => f.n < g.n) →
    (∃ fs1 f fs2, fs = fs1 ++ f :: fs2 ∧ f.n = n ∧ (∀ g ∈ fs1, g.n < n) ∧ ∀ g ∈ fs2, n < g.n) ∨ (∃ fs1 fs2, fs = fs1 ++ fs2 ∧ (∀ g ∈ fs1, g.n < n) ∧ ∀ g ∈ fs2, n < g.n)
  | [], n, _ => .inr ⟨[], [], rfl, by simp, by simp⟩
  | f :: r, n, h => by
    rw [List.pairwise_cons] at h
    rcases Int.lt_trichotomy f.n n with h1 | h1 | h1
    · rcases split_at r n h.2 with ⟨a, g, b, rfl, hg, ha, hb⟩ | ⟨a, b, rfl, ha, hb⟩
      · exact .inl ⟨f :: a, g, b, rfl, hg, fun x hx => (List.mem_cons.1 hx).elim (fun e => e ▸ h1) (ha x), hb⟩
      · exact .inr ⟨f :: a, b, rfl, fun x hx => (List.mem_cons.1 hx).elim (fun e => e ▸ h1) (ha x), hb⟩
    · exact .inl ⟨[], f, r, rfl, h1, by simp, fun g hg => h1 ▸ h.1 g hg⟩
    · exact .inr ⟨[], f :: r, rfl, by simp, fun g hg => (List.mem_cons.1 hg).elim (fun e => e ▸ h1) (fun hg => Int.lt_trans h1 (h.1 g hg))⟩

theorem absd_app (a b : List DF) : absd (a ++ b) = absd a ++ absd b := List.map_append
theorem absd_cons (f : DF) (b : List DF) : absd (f :: b) = f.abs :: absd b := rfl
theorem absd_lt {fs : List DF} {n : Int} (h : ∀ g ∈ fs, g.n < n) : ∀ g ∈ absd fs, g.n < n := by
  intro g hg; obtain ⟨f, hf, rfl⟩ := List.mem_map.1 hg; exact h f hf
theorem absd_gt {fs : List DF} {n : Int} (h : ∀ g ∈ fs, n < g.n) : ∀ g ∈ absd fs, n < g.n := by
  intro g hg; obtain ⟨f, hf, rfl⟩ := List.mem_map.1 hg; exact h f hf

theorem pget_hit {L1 L2 : List PF} {f : PF} (h1 : ∀ g ∈ L1, g.n < f.n) : pget f.n (L1 ++ f :: L2) = some f := by
  induction L1 with
  | nil => simp [pget]
  | cons g r ih =>
    have := h1 g (by simp)
    simp only [pget, List.cons_append, List.find?_cons] at ih ⊢
    rw [show decide (g.n = f.n) = false from by simp; omega]
    exact ih fun x hx => h1 x (by simp [hx])
theorem pget_miss {L : List PF} {n : Int} (h : ∀ g ∈ L, g.n ≠ n) : pget n L = none := by
  simp only [pget, List.find?_eq_none, decide_eq_true_eq]; exact h
theorem pins_hit {L1 L2 : List PF} {f : PF} {x : List UInt8} (h1 : ∀ g ∈ L1, g.n < f.n) : pins f.n x (L1 ++ f :: L2) = L1 ++ ⟨f.n, f.safe, f.rest ++ x⟩ :: L2 := by
  induction L1 with
  | nil => simp [pins]
  | cons g r ih => simp [pins, h1 g (by simp), ih fun x hx => h1 x (by simp [hx])]
theorem pins_miss {L1 L2 : List PF} {n : Int} {x : List UInt8} (h1 : ∀ g ∈ L1, g.n < n) (h2 : ∀ g ∈ L2, n < g.n) : pins n x (L1 ++ L2) = L1 ++ ⟨n, [], x⟩ :: L2 := by
  induction L1 with
  | nil =>
    cases L2 with
    | nil => rfl
    | cons g r =>
      have := h2 g (by simp)
      simp only [List.nil_append, pins]
      rw [if_neg (by omega), if_neg (by omega)]
  | cons g r ih => simp [pins, h1 g (by simp), ih fun x hx => h1 x (by simp [hx])]
theorem pturn_none {L : List PF} {n : Int} {g : PF → PF} (h : ∀ f ∈ L, f.n ≠ n) : pturn n g L = L := by
  unfold pturn
  conv => rhs; rw [← List.map_id L]
  apply List.map_congr_left
  intro f hf
  simp [h f hf]
theorem pturn_hit {L1 L2 : List PF} {f : PF} {g : PF → PF} (h1 : ∀ g ∈ L1, g.n < f.n) (h2 : ∀ g ∈ L2, f.n < g.n) : pturn f.n g (L1 ++ f :: L2) = L1 ++ g f :: L2 := by
  have e1 := pturn_none (g := g) (L := L1) (n := f.n) fun x hx => by have := h1 x hx; omega
  have e2 := pturn_none (g := g) (L := L2) (n := f.n) fun x hx => by have := h2 x hx; omega
  simp only [pturn, List.map_append, List.map_cons] at e1 e2 ⊢
  rw [e1, e2, if_true]
theorem pdrop_none {L : List PF} {n : Int} (h : ∀ f ∈ L, f.n ≠ n) : pdrop n L = L := by
  unfold pdrop
  rw [List.filter_eq_self]
  intro f hf
  simp [h f hf]
theorem pdrop_hit {L1 L2 : List PF} {f : PF} (h1 : ∀ g ∈ L1, g.n < f.n) (h2 : ∀ g ∈ L2, f.n < g.n) : pdrop f.n (L1 ++ f :: L2) = L1 ++ L2 := by
  have e1 := pdrop_none (L := L1) (n := f.n) fun x hx => by have := h1 x hx; omega
  have e2 := pdrop_none (L := L2) (n := f.n) fun x hx => by have := h2 x hx; omega
  simp only [pdrop, List.filter_append] at e1 e2 ⊢
  rw [e1, List.filter_cons_of_neg (by simp), e2]
theorem pget_abs {fs1 fs2 : List DF} {f : DF} (h1 : ∀ g ∈ fs1, g.n < f.n) : pget f.n (absd fs1 ++ f.abs :: absd fs2) = some f.abs := pget_hit (f := f.abs) (absd_lt h1)
theorem pins_abs {fs1 fs2 : List DF} {f : DF} {x : List UInt8} (h1 : ∀ g ∈ fs1, g.n < f.n) : pins f.n x (absd fs1 ++ f.abs :: absd fs2) = absd fs1 ++ ⟨f.n, f.safe, f.rest ++ x⟩ :: absd fs2 := pins_hit (f := f.abs) (absd_lt h1)
theorem pturn_abs {fs1 fs2 : List DF} {f : DF} {g : PF → PF} (h1 : ∀ g ∈ fs1, g.n < f.n) (h2 : ∀ g ∈ fs2, f.n < g.n) : pturn f.n g (absd fs1 ++ f.abs :: absd fs2) = absd fs1 ++ g f.abs :: absd fs2 := pturn_hit (f := f.abs) (absd_lt h1) (absd_gt h2)
theorem pdrop_abs {fs1 fs2 : List DF} {f : DF} (h1 : ∀ g ∈ fs1, g.n < f.n) (h2 : ∀ g ∈ fs2, f.n < g.n) : pdrop f.n (absd fs1 ++ f.abs :: absd fs2) = absd fs1 ++ absd fs2 := pdrop_hit (f := f.abs) (absd_lt h1) (absd_gt h2)
end Go.Proofs.Ytnfecdjcddidgaa
