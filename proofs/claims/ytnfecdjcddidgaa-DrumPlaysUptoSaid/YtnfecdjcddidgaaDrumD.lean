/- The drum: operate, and the operations. -/
import Derived.Test.YtnfecdjcddidgaaDrumC
import Derived.Shelf.Abstract
namespace Go.Proofs.Ytnfecdjcddidgaa
open Go.RowKit Go.Maps

def decL (l : Int) : Int := if 0 < l then l - 1 else l
def opers (s : DSt) : DSt := { s with left := decL s.left }

theorem operate_arg {w : World} {d g : Nat} {n : Int} {lb : Array Value} (h : n < 1 ∨ 1000 < n) :
    Calls Try.prog 40 #[.pointer (some ⟨d, 0, none⟩), .int .i64 n, .func (.func g) #[] lb] w fun e w' => e = .returned (.int .i64 2) ∧ w = w' := by
  by_cases h1 : n < 1
  · go_enter Try.func40, Try.ntmps40
    go_wp2
    go_ret
    exact ⟨rfl, rfl⟩
  · have h2 : 1000 < n := by omega
    go_enter Try.func40, Try.ntmps40
    go_wp2
    go_ret
    exact ⟨rfl, rfl⟩

theorem operate_dead {w : World} {d m g : Nat} {fs : List DF} {s : DSt} {n : Int} {lb : Array Value} (h : Dr w d m fs s) (hn : 1 ≤ n ∧ n ≤ 1000) (hd : s.dead = true ∨ s.left = 0) :
    Calls Try.prog 40 #[.pointer (some ⟨d, 0, none⟩), .int .i64 n, .func (.func g) #[] lb] w fun e w' => e = .returned (.int .i64 140) ∧ Dr w' d m fs { s with dead := true } ∧ Mod (· = d) w w' := by
  obtain ⟨n1, n2⟩ := hn
  have c3 : w.cell? ⟨d, 3, none⟩ = some (.bool s.dead) := heap_cell h.st 3
  have z3 : w.frozen? ⟨d, 3, none⟩ = false := heap_free h.st 3
  have c2 : w.cell? ⟨d, 2, none⟩ = some (.int .i64 s.left) := heap_cell h.st 2
  have hm : Mod (· = d) w (w.setCell ⟨d, 3, none⟩ (.bool true)) := (Mod.refl (· = d) w).setCell (p := ⟨d, 3, none⟩) (.inl rfl) _
  have hD := h.set (s' := { s with dead := true }) hm h.room (heap_setCell h.st 3 _)
  clear h
  by_cases h1 : s.dead = true
  · rw [h1] at c3
    go_enter Try.func40, Try.ntmps40
    go_wp2
    go_ret
    exact ⟨rfl, hD, hm⟩
  · have h2 : s.dead = false := by simpa using h1
    have h3 : s.left = 0 := hd.resolve_left h1
    rw [h2] at c3
    rw [h3] at c2
    clear h1 h2 h3 hd
    go_enter Try.func40, Try.ntmps40
    go_wp2
    go_ret
    exact ⟨rfl, hD, hm⟩

set_option maxHeartbeats 1000000 in
/-- The closure is called; c is what it answers. -/
theorem operate_run {w : World} {d m g : Nat} {fs : List DF} {s : DSt} {n : Int} {lb : Array Value} (h : Dr w d m fs s) (hn : 1 ≤ n ∧ n ≤ 1000) (hd : s.dead = false) (hl : s.left ≠ 0)
    (eg : Go.Proofs.Enters Try.prog g) (hb : -9223372036854775808 ≤ s.left ∧ s.left ≤ 9223372036854775807) (hops : 0 ≤ s.ops ∧ s.ops ≤ 4611686018427387904) (c : Int) (T U : World → Prop)
    (hC : ∀ W, Dr W d m fs (opers s) → Mod (· = d) w W → Calls Try.prog g lb W fun e W' => e = .returned (.int .i64 c) ∧ T W')
    (hT : ∀ W', T W' → W'.cell? ⟨d, 4, none⟩ = some (.int .i64 s.ops) ∧ W'.frozen? ⟨d, 4, none⟩ = false ∧ (c = 0 → U (W'.setCell ⟨d, 4, none⟩ (.int .i64 (s.ops + 1)))) ∧ (c ≠ 0 → U W')) :
    Calls Try.prog 40 #[.pointer (some ⟨d, 0, none⟩), .int .i64 n, .func (.func g) #[] lb] w fun e w' => e = .returned (.int .i64 c) ∧ U w' := by
  obtain ⟨n1, n2⟩ := hn
  obtain ⟨o1, o2⟩ := hops
  obtain ⟨b1, b2⟩ := hb
  have c3 : w.cell? ⟨d, 3, none⟩ = some (.bool false) := by rw [← hd]; exact heap_cell h.st 3
  have c2 : w.cell? ⟨d, 2, none⟩ = some (.int .i64 s.left) := heap_cell h.st 2
  have z2 : w.frozen? ⟨d, 2, none⟩ = false := heap_free h.st 2
  have hl' : (s.left == 0) = false := by simpa using hl
  have HC := Lib.hid hC
  have HT := Lib.hid hT
  have H := Lib.hid h
  unfold Go.Proofs.Enters at eg
  clear h hC hT hd hl
  by_cases hp : 0 < s.left
  · have hm : Mod (· = d) w (w.setCell ⟨d, 2, none⟩ (.int .i64 (s.left - 1))) := (Mod.refl (· = d) w).setCell (p := ⟨d, 2, none⟩) (.inl rfl) _
    have e1 : opers s = { s with left := s.left - 1 } := by simp [opers, decL, hp]
    have hD : Dr (w.setCell ⟨d, 2, none⟩ (.int .i64 (s.left - 1))) d m fs (opers s) := by rw [e1]; exact H.out.set (s' := { s with left := s.left - 1 }) hm H.out.room (heap_setCell H.out.st 2 _)
    have HD := Lib.hid hD
    have HM := Lib.hid hm
    clear e1 hD hm
    go_enter Try.func40, Try.ntmps40
    go_wp2_with fail
    refine (HC.out _ HD.out HM.out).mono ?_
    rintro e W' ⟨rfl, hW⟩
    obtain ⟨q4, y4, hU, hV⟩ := HT.out _ hW
    have HU := Lib.hid hU
    have HV := Lib.hid hV
    clear hW hU hV c3 c2 z2
    by_cases hc : c = 0
    · subst hc
      go_wp2
      go_ret
      exact ⟨rfl, HU.out (by trivial)⟩
    · have hc' : (c == 0) = false := by simpa using hc
      go_wp2
      go_ret
      exact ⟨rfl, HV.out hc⟩
  · have e1 : opers s = s := by simp [opers, decL, hp]
    have HD : RowKit.Hid (Dr w d m fs (opers s)) := Lib.hid (by rw [e1]; exact H.out)
    clear e1
    go_enter Try.func40, Try.ntmps40
    go_wp2_with fail
    refine (HC.out _ HD.out (Mod.refl _ w)).mono ?_
    rintro e W' ⟨rfl, hW⟩
    obtain ⟨q4, y4, hU, hV⟩ := HT.out _ hW
    have HU := Lib.hid hU
    have HV := Lib.hid hV
    clear hW hU hV c3 c2
    by_cases hc : c = 0
    · subst hc
      go_wp2
      go_ret
      exact ⟨rfl, HU.out (by trivial)⟩
    · have hc' : (c == 0) = false := by simpa using hc
      go_wp2
      go_ret
      exact ⟨rfl, HV.out hc⟩
end Go.Proofs.Ytnfecdjcddidgaa
