/- slices.Concat of lists of bytes. -/
import Derived.Test.YtnfecdjcddidgaaBase
import Derived.Test.YtnfecdjcddidgaaShelf
import Derived.Lib.Hide
namespace Go.Proofs.Ytnfecdjcddidgaa
open Go.RowKit Go.Maps

theorem info5 : (Try.prog.info? 5).map (fun i => (i.zero, i.size, i.bytes)) = some (some (.int .u8 0), 1, 1) := by kernel_rfl

abbrev Rbytes : Rdr (List UInt8) := Rdr.byte.slice (by decide)
abbrev Rlists : Rdr (List (List UInt8)) := Rbytes.slice (by decide)

/-- slices.Grow of nil. -/
theorem grow_nil (n : Nat) (w : World) (hn : n ≤ 140737488355328) :
    Calls Try.prog 59 #[.slice none 0 0, .int .i64 n] w fun e w' => ∃ v, e = .returned v ∧ w'.ownsRow w.heap.size 5 1 v 0 [] ∧ Mod Nil w w' := by
  rcases Nat.eq_zero_or_pos n with rfl | h0
  · refine (Any8.slices_Grow_room Try.growA none 0 0 0 w (by omega) (by omega) (by omega) (by omega)).mono ?_
    rintro e w' ⟨rfl, rfl⟩
    exact ⟨_, rfl, World.ownsRow_nil _ _ _ _, Mod.refl _ _⟩
  · obtain ⟨i0, hi, hzz⟩ := Option.map_eq_some_iff.1 info5
    simp only [Prod.mk.injEq] at hzz
    obtain ⟨hz0, hz1, hz2⟩ := hzz
    refine (Any8.slices_Grow_grow Try.growA i0 (.int .u8 0) hi hz0 (by omega) none 0 0 n [] w (by omega) (by omega) (by rw [hz2]; omega) (by omega) (by simp) (fun _ => rfl) (fun _ h => by cases h)).mono ?_
    rintro e w' ⟨rfl, rfl⟩
    have h1 := grownCap_ge w (0 + n) 0 5
    have h2 := grownCap_le_maxLen w (0 + n) 0 5 (by simp only [maxLen]; omega)
    refine ⟨_, rfl, ⟨by simp, .inr ⟨w.heap.size, _, _, rfl, Nat.le_refl _, heap_new _ _, Nat.zero_le _, h2, ?_, by simp⟩⟩, ((Mod.refl _ w).drew).alloc _⟩
    simp only [Array.size_append, size_zeroCells]
    have h3 : Try.growA_ren.t 25 = 5 := rfl
    rw [h3]
    show 0 + (0 + n - 0) * 1 + (grownCap w (0 + n) 0 5 - (0 + n)) * 1 = _
    omega

def flen (bs : List (List UInt8)) (k : Nat) : Nat := (bs.take k).flatten.length
theorem flen_succ (bs : List (List UInt8)) (k : Nat) (h : k < bs.length) : flen bs (k + 1) = flen bs k + bs[k].length := by
  unfold flen
  rw [List.take_succ_eq_append_getElem h, List.flatten_append, List.length_append]
  simp
theorem flen_le (bs : List (List UInt8)) (k : Nat) : flen bs k ≤ bs.flatten.length := by
  unfold flen
  conv => rhs; rw [← List.take_append_drop k bs, List.flatten_append, List.length_append]
  omega
theorem flat_succ (bs : List (List UInt8)) (k : Nat) (h : k < bs.length) : (bs.take (k + 1)).flatten = (bs.take k).flatten ++ bs[k] := by
  rw [List.take_succ_eq_append_getElem h, List.flatten_append]
  simp

set_option maxHeartbeats 1000000 in
theorem concat_any (F : Nat → Prop) (A : Option Addr) (c : Nat) (bs : List (List UInt8)) (w : World) (hF : ∀ b, F b → b < w.heap.size) (h : SC Rbytes F w A bs) (hT : bs.flatten.length ≤ 140737488355328) (hl : bs.length ≤ 140737488351232) :
    Calls Try.prog 42 #[.slice A bs.length c] w fun e w' => ∃ v, e = .returned v ∧ w'.ownsRow w.heap.size 5 1 v bs.flatten.length (bcells bs.flatten) ∧ Mod Nil w w' := by
  have H := Lib.hid h
  clear h
  go_enter Try.func42, Try.ntmps42
  go_wp2
  go_loop [3, 11] (fun s i => ∃ k : Nat, k ≤ bs.length ∧ i = .int .i64 k ∧ s = .int .i64 (flen bs k)) (fun _ i => bs.length - (intOf i).toNat)
  case atStart => exact ⟨0, Nat.zero_le _, rfl, rfl⟩
  case round =>
    obtain ⟨k, hk, rfl, rfl⟩ := hrel
    by_cases hlt : k < bs.length
    · obtain ⟨b, o, A', c', rfl, hb, c0, hc1, hc2, hSC⟩ := H.out.slice_at hlt
      have e1 := flen_succ bs k hlt
      have e2 := flen_le bs (k + 1)
      have HE := Lib.hid e1
      have b1 : flen bs k + bs[k].length ≤ 140737488355328 := by omega
      clear e1 e2 hSC
      go_wp2
      go_round
      case rel => exact ⟨k + 1, by omega, by go_num, by rw [HE.out]; go_num⟩
      case measure => simp [intOf]; omega
    · obtain rfl : k = bs.length := by omega
      have e2 := flen_le bs bs.length
      go_wp2_with fail
      refine (grow_nil (flen bs bs.length) w (by omega)).mono ?_
      rintro e w1 ⟨v, rfl, hown, hm⟩
      clear e2
      go_wp2_with fail
      go_loopw [6, 27] (fun v i wr => ∃ k : Nat, k ≤ bs.length ∧ i = .int .i64 k ∧ wr.ownsRow w.heap.size 5 1 v (bs.take k).flatten.length (bcells (bs.take k).flatten) ∧ Mod Nil w wr) (fun _ i _ => bs.length - (intOf i).toNat)
      case atStart => exact ⟨0, Nat.zero_le _, rfl, hown, hm⟩
      case round =>
        obtain ⟨k, hk, rfl, hown, hm⟩ := hrel
        by_cases hlt : k < bs.length
        · obtain ⟨b, o, A', c', rfl, hb, c0, hc1, hc2, hSC⟩ := H.out.slice_at hlt
          have c0 : wr.cell? ⟨b, o + k, none⟩ = some (.slice A' bs[k].length c') := by
            rw [World.cell?_of_block (w := w) (hm.block _ (hF b hb) (fun h => h))]; exact c0
          have hS := Lib.hid (hSC.kept (by decide) hm (fun _ _ _ h => h))
          have e1 := flen_succ bs k hlt
          have e2 := flen_le bs (k + 1)
          have b1 : (bs.take k).flatten.length + bs[k].length ≤ 140737488355328 := by unfold flen at *; omega
          have HE := Lib.hid (flat_succ bs k hlt)
          have hsz := hm.size
          clear e1 e2 hSC
          go_wp2_with (at_builtin; refine wp_append_bytes rfl _ _ 39 5 rfl Try.underlying39 info5 w.heap.size _ _ rfl hown F A' c' bs[k] _ rfl rfl hS.out b1 hsz ?_; intro v' w1 hown' hg hb' hn')
          go_roundw
          case rel => exact ⟨k + 1, by omega, by go_num, by rw [HE.out]; exact hown', hm.grown hg (fun q hq => .inr (hown.lt q hq).1)⟩
          case measure => simp [intOf]; omega
        · obtain rfl : k = bs.length := by omega
          go_wp2
          go_ret
          rw [List.take_length] at hown
          exact ⟨_, rfl, hown, hm⟩
end Go.Proofs.Ytnfecdjcddidgaa
