/- The law's own functions: num, whole, and the document's Ints. -/
import Derived.Test.YtnfecdjcddidgaaRefI
namespace Go.Proofs.Ytnfecdjcddidgaa
open Go.RowKit Go.Maps

theorem num_any (c : Int) (w : World) : Calls Try.prog 11 #[.int .i64 c] w fun e w' => e = .returned (.int .i64 c) ∧ w = w' := by
  go_enter Try.func11, Try.ntmps11
  go_wp2
  go_ret
  exact ⟨rfl, rfl⟩

set_option maxHeartbeats 1000000 in
theorem whole_any (F : Nat → Prop) (A : Option Addr) (c : Nat) (bs : List (List UInt8)) (w : World) (hF : ∀ b, F b → b < w.heap.size) (h : SC Rbytes F w A bs) (hT : bs.flatten.length ≤ 140737488355328) (hl : bs.length ≤ 140737488351232) :
    Calls Try.prog 16 #[.slice A bs.length c] w fun e w' => ∃ v, e = .returned v ∧ w'.ownsRow w.heap.size 5 1 v bs.flatten.length (bcells bs.flatten) ∧ Mod Nil w w' := by
  have H := Lib.hid h
  clear h
  go_enter Try.func16, Try.ntmps16
  go_wp2
  go_loopw [3, 4] (fun v i wr => ∃ k : Nat, k ≤ bs.length ∧ i = .int .i64 k ∧ wr.ownsRow w.heap.size 5 1 v (bs.take k).flatten.length (bcells (bs.take k).flatten) ∧ Mod Nil w wr) (fun _ i _ => bs.length - (intOf i).toNat)
  case atStart => exact ⟨0, Nat.zero_le _, rfl, World.ownsRow_nil _ _ _ _, Mod.refl _ _⟩
  case round =>
    obtain ⟨k, hk, rfl, hown, hm⟩ := hrel
    by_cases hlt : k < bs.length
    · obtain ⟨b, o, A', c', rfl, hb, c0, hc1, hc2, hSC⟩ := H.out.slice_at hlt
      have c0 : wr.cell? ⟨b, o + k, none⟩ = some (.slice A' bs[k].length c') := by
        rw [World.cell?_of_block (w := w) (hm.block _ (hF b hb) (fun h => h))]; exact c0
      have hS := Lib.hid (hSC.kept (by decide) hm (fun _ _ _ h => h))
      have e1 := flen_succ bs k hlt
      have e2 := flen_le bs (k + 1)
      have b1 : (bs.take k).flatten.length + bs[k].length ≤ 140737488355328 := by unfold flen at *; omega
      have HE := Lib.hid (flat_succ bs k hlt)
      have hsz := hm.size
      clear e1 e2 hSC
      go_wp2_with (at_builtin; refine wp_append_bytes rfl _ _ 39 5 rfl Try.underlying39 info5 w.heap.size _ _ rfl hown F A' c' bs[k] _ rfl rfl hS.out b1 hsz ?_; intro v' w1 hown' hg hb' hn')
      go_roundw
      case rel => exact ⟨k + 1, by omega, by go_num, by rw [HE.out]; exact hown', hm.grown hg (fun q hq => .inr (hown.lt q hq).1)⟩
      case measure => simp [intOf]; omega
    · obtain rfl : k = bs.length := by omega
      go_wp2
      go_ret
      rw [List.take_length] at hown
      exact ⟨_, rfl, hown, hm⟩

/-- The cells of a row of whole numbers. -/
theorem int_cells {w : World} {B : Nat} {v : Value} {l : List Int} (h : w.ownsRow B 3 1 v l.length (l.map encZ)) {k : Nat} (hk : k < l.length) : ∃ b c, v = .slice (some ⟨b, 0, none⟩) l.length c ∧ w.cell? ⟨b, k, none⟩ = some (.int .i64 l[k]) := by
  rcases h.2 with ⟨_, h0⟩ | ⟨g, cap, cur, hv, _⟩
  · omega
  · have hc := h.cells (g := g) (by rw [hv]; rfl) k (.int .i64 l[k]) (by simp [hk, encZ])
    rw [addr_add, Nat.zero_add] at hc
    exact ⟨g, cap, hv, hc⟩

set_option maxRecDepth 100000 in
set_option maxHeartbeats 1000000 in
/-- Two rows that hold the same numbers. -/
theorem ints_same {w : World} {B1 B2 : Nat} {v1 v2 : Value} {l : List Int} (h1 : w.ownsRow B1 3 1 v1 l.length (l.map encZ)) (h2 : w.ownsRow B2 3 1 v2 l.length (l.map encZ)) (hl : l.length ≤ 1000) :
    Calls Try.prog 50 #[v1, v2] w fun e w' => e = .returned (.bool true) ∧ Mod Nil w w' := by
  obtain ⟨A1, c1, rfl, hc1, _⟩ := own_form h1
  obtain ⟨A2, c2, rfl, hc2, _⟩ := own_form h2
  have H1 := Lib.hid h1
  have H2 := Lib.hid h2
  clear h1 h2
  go_enter Try.func50, Try.ntmps50
  go_wp2
  go_loopw [5] (fun i wr => ∃ k : Nat, k ≤ l.length ∧ i = .int .i64 k ∧ Mod Nil w wr) (fun i _ => l.length - (intOf i).toNat)
  case atStart => exact ⟨0, Nat.zero_le _, rfl, Mod.refl _ _⟩
  case round =>
    obtain ⟨k, hk, rfl, hm⟩ := hrel
    by_cases hlt : k < l.length
    · obtain ⟨b1, _, e1, k1⟩ := int_cells H1.out hlt
      obtain ⟨b2, _, e2, k2⟩ := int_cells H2.out hlt
      obtain rfl : A1 = some ⟨b1, 0, none⟩ := by cases e1; rfl
      obtain rfl : A2 = some ⟨b2, 0, none⟩ := by cases e2; rfl
      have k1' : wr.cell? ⟨b1, k, none⟩ = some (.int .i64 l[k]) := by rw [World.cell?_of_block (hm.block _ (World.block_lt_of_cell? w _ k1) (fun h => h))]; exact k1
      have k2' : wr.cell? ⟨b2, k, none⟩ = some (.int .i64 l[k]) := by rw [World.cell?_of_block (hm.block _ (World.block_lt_of_cell? w _ k2) (fun h => h))]; exact k2
      have HM := Lib.hid hm
      clear e1 e2 k1 k2 hm
      go_wp2
      refine wp_text mixed (by kernel_rfl) ?_
      go_wp2_with fail
      refine nf_end (by kernel_rfl) ?_
      go_wp2
      go_roundw
      case rel => exact ⟨k + 1, by omega, by go_num, HM.out.drew⟩
      case measure => simp [intOf]; omega
    · obtain rfl : k = l.length := by omega
      have HM := Lib.hid hm
      clear hm
      go_wp2
      go_ret
      exact ⟨rfl, HM.out⟩
end Go.Proofs.Ytnfecdjcddidgaa
