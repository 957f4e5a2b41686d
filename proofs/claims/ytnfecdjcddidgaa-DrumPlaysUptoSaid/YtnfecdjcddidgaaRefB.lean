/- The document's drum: begin, Free, find. -/
import Derived.Test.YtnfecdjcddidgaaRefA
namespace Go.Proofs.Ytnfecdjcddidgaa
open Go.RowKit Go.Maps

theorem begin_any {w : World} {r : Nat} {lv : Value} {fs : List RF} {s : DSt} (h : Rf w r lv fs s) (n : Int) (hb : -9223372036854775808 ≤ s.left ∧ s.left ≤ 9223372036854775807) :
    Calls Try.prog 43 #[.pointer (some ⟨r, 0, none⟩), .int .i64 n] w fun e w' => e = .returned (.int .i64 (gcode n s)) ∧ Rf w' r lv fs (gst n s) ∧ Mod (· = r) w w' := by
  unfold gcode gst
  obtain ⟨b1, b2⟩ := hb
  by_cases h1 : n < 1
  · rw [if_pos (.inl h1), if_pos (.inl h1)]
    have H := Lib.hid h
    clear h
    go_enter Try.func43, Try.ntmps43
    go_wp2
    go_ret
    exact ⟨rfl, H.out, Mod.refl _ w⟩
  · by_cases h2 : 1000 < n
    · rw [if_pos (.inr h2), if_pos (.inr h2)]
      have H := Lib.hid h
      clear h
      go_enter Try.func43, Try.ntmps43
      go_wp2
      go_ret
      exact ⟨rfl, H.out, Mod.refl _ w⟩
    · have hn : ¬ (n < 1 ∨ 1000 < n) := by omega
      rw [if_neg hn, if_neg hn]
      clear hn
      have c3 : w.cell? ⟨r, 3, none⟩ = some (.bool s.dead) := heap_cell h.st 3
      have z3 : w.frozen? ⟨r, 3, none⟩ = false := heap_free h.st 3
      have c2 : w.cell? ⟨r, 2, none⟩ = some (.int .i64 s.left) := heap_cell h.st 2
      have z2 : w.frozen? ⟨r, 2, none⟩ = false := heap_free h.st 2
      have hm : Mod (· = r) w (w.setCell ⟨r, 3, none⟩ (.bool true)) := (Mod.refl (· = r) w).setCell (p := ⟨r, 3, none⟩) (.inl rfl) _
      have HD := Lib.hid (h.set (s' := { s with dead := true }) hm rfl (heap_setCell h.st 3 _))
      have HM := Lib.hid hm
      by_cases h3 : s.dead = true
      · rw [if_pos (.inl h3), if_pos (.inl h3)]
        rw [h3] at c3
        clear h hm h3
        go_enter Try.func43, Try.ntmps43
        go_wp2
        go_ret
        exact ⟨rfl, HD.out, HM.out⟩
      · have h3' : s.dead = false := by simpa using h3
        rw [h3'] at c3
        by_cases h4 : s.left = 0
        · rw [if_pos (.inr h4), if_pos (.inr h4)]
          rw [h4] at c2
          clear h hm h3 h3' h4
          go_enter Try.func43, Try.ntmps43
          go_wp2
          go_ret
          exact ⟨rfl, HD.out, HM.out⟩
        · rw [if_neg (by simp [h3', h4]), if_neg (by simp [h3', h4])]
          have hl' : (s.left == 0) = false := by simpa using h4
          have hm2 : Mod (· = r) w (w.setCell ⟨r, 2, none⟩ (.int .i64 (s.left - 1))) := (Mod.refl (· = r) w).setCell (p := ⟨r, 2, none⟩) (.inl rfl) _
          by_cases hp : 0 < s.left
          · have e1 : opers s = { s with left := s.left - 1 } := by simp [opers, decL, hp]
            have HD2 : RowKit.Hid (Rf (w.setCell ⟨r, 2, none⟩ (.int .i64 (s.left - 1))) r lv fs (opers s)) := Lib.hid (by rw [e1]; exact h.set (s' := { s with left := s.left - 1 }) hm2 rfl (heap_setCell h.st 2 _))
            have HM2 := Lib.hid hm2
            clear h hm hm2 e1 h3 h3' HD HM h4
            go_enter Try.func43, Try.ntmps43
            go_wp2
            go_ret
            exact ⟨rfl, HD2.out, HM2.out⟩
          · have e1 : opers s = s := by simp [opers, decL, hp]
            have HD2 : RowKit.Hid (Rf w r lv fs (opers s)) := Lib.hid (by rw [e1]; exact h)
            clear h hm hm2 e1 h3 h3' HD HM h4
            go_enter Try.func43, Try.ntmps43
            go_wp2
            go_ret
            exact ⟨rfl, HD2.out, Mod.refl _ w⟩

theorem psum_append' : ∀ a b : List PF, psum (a ++ b) = psum a + psum b := psum_append
theorem psum_take_succ {fs : List RF} {k : Nat} (hk : k < fs.length) : psum ((rabs fs).take (k + 1)) = psum ((rabs fs).take k) + (fs[k].safe.length + fs[k].rest.length : Int) := by
  have hk' : k < (rabs fs).length := by simpa [rabs] using hk
  rw [List.take_succ_eq_append_getElem hk', psum_append]
  simp [psum, rabs, PF.sz, RF.abs]
theorem psum_take_le (L : List PF) (k : Nat) : psum (L.take k) ≤ psum L ∧ 0 ≤ psum (L.take k) := by
  have h1 := psum_append (L.take k) (L.drop k)
  rw [List.take_append_drop] at h1
  have := psum_nonneg (L.drop k)
  exact ⟨by omega, psum_nonneg _⟩

set_option maxHeartbeats 1000000 in
theorem rfree_any {w : World} {r : Nat} {lv : Value} {fs : List RF} {s : DSt} (h : Rf w r lv fs s) :
    Calls Try.prog 44 #[.pointer (some ⟨r, 0, none⟩)] w fun e w' => e = .returned (.int .i64 s.free) ∧ w = w' := by
  have c0 : w.cell? ⟨r, 0, none⟩ = some lv := heap_cell h.st 0
  have c1 : w.cell? ⟨r, 1, none⟩ = some (.int .i64 (s.free + psum (rabs fs))) := heap_cell h.st 1
  obtain ⟨hr1, hr2⟩ := h.room
  have hcnt := h.count
  obtain ⟨A, c, hlv, hc, _⟩ := own_form h.ls
  rw [hlv] at c0
  have H := Lib.hid h
  have HL := Lib.hid hlv
  have hpn := psum_nonneg (rabs fs)
  clear h hlv
  go_enter Try.func44, Try.ntmps44
  go_wp2
  go_loop [3, 4] (fun v i => ∃ k : Nat, k ≤ fs.length ∧ i = .int .i64 k ∧ v = .int .i64 (s.free + psum (rabs fs) - psum ((rabs fs).take k))) (fun _ i => fs.length - (intOf i).toNat)
  case atStart => exact ⟨0, Nat.zero_le _, rfl, by simp [psum]⟩
  case round =>
    obtain ⟨k, hk, rfl, rfl⟩ := hrel
    by_cases hlt : k < fs.length
    · obtain ⟨lb, c', hlv', hc', k0, k1, k2⟩ := H.out.at_ hlt
      have hA : A = some ⟨lb, 0, none⟩ := by rw [HL.out] at hlv'; cases hlv'; rfl
      subst hA
      obtain ⟨A1, x1, hbv, hx1, _⟩ := own_form (H.out.fl fs[k] (by simp))
      rw [hbv, List.length_append] at k1
      obtain ⟨p1, p2⟩ := psum_take_le (rabs fs) k
      obtain ⟨p3, p4⟩ := psum_take_le (rabs fs) (k + 1)
      have hs := psum_take_succ hlt
      have HS := Lib.hid hs
      have hb1 : s.free + psum (rabs fs) - psum ((rabs fs).take k) - (fs[k].safe.length + fs[k].rest.length : Int) = s.free + psum (rabs fs) - psum ((rabs fs).take (k + 1)) := by omega
      have HB := Lib.hid hb1
      have hq : 0 ≤ s.free + psum (rabs fs) - psum ((rabs fs).take k) - (fs[k].safe.length + fs[k].rest.length : Int) := by omega
      clear hlv' hbv hs hb1
      go_wp2
      go_round
      case rel => exact ⟨k + 1, by omega, by go_num, by rw [← HB.out]⟩
      case measure => simp [intOf]; omega
    · obtain rfl : k = fs.length := by omega
      have ht : (rabs fs).take fs.length = rabs fs := by rw [List.take_of_length_le]; simp [rabs]
      rw [ht]
      go_wp2
      go_ret
      exact ⟨by congr 2; try omega, rfl⟩
end Go.Proofs.Ytnfecdjcddidgaa
