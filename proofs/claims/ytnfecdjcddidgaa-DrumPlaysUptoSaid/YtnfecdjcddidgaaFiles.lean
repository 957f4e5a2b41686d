/- The drum's method Files: the numbers of all files, rising. -/
import Derived.Test.YtnfecdjcddidgaaRead
namespace Go.Proofs.Ytnfecdjcddidgaa
open Go.RowKit Go.Maps Go.Sort Go.Shelf

theorem rising_length : ∀ (l : List Int) (lo hi : Int), l.Pairwise (· < ·) → (∀ x ∈ l, lo ≤ x ∧ x ≤ hi) → lo ≤ hi + 1 → (l.length : Int) ≤ hi + 1 - lo
  | [], _, _, _, _, h => by simp; omega
  | x :: r, lo, hi, hp, hx, h => by
    rw [List.pairwise_cons] at hp
    have h1 := hx x (by simp)
    have := rising_length r (x + 1) hi hp.2 (fun y hy => ⟨by have := hp.1 y hy; omega, (hx y (by simp [hy])).2⟩) (by omega)
    simp only [List.length_cons]
    omega

theorem sortsA (m : Nat) : AnyZI.SortsIn Try.prog Try.sortedA_ren Fence.wide m :=
  ⟨fun blk off cap ss W hH hblk hsz => callsIn_wide.2 (AnyM.slices_Sort_int Try.sortA blk off cap ss W hH hblk hsz),
   fun p cap W => callsIn_wide.2 (AnyM.slices_Sort_int_none Try.sortA p cap W)⟩

theorem pmap_size (l : List (Int × Nat)) : Maps.size (pmap l) = l.length := by simp [pmap, Maps.size]
theorem pmap_keys (l : List (Int × Nat)) : intKeys (pmap l) = l.map (·.1) := by
  simp [pmap, intKeys, Function.comp_def, List.filterMap_map]
  intros; rfl

set_option maxRecDepth 20000 in
set_option maxHeartbeats 1000000 in
theorem files_any {w : World} {d m : Nat} {fs : List DF} {s : DSt} (h : Dr w d m fs s) :
    Calls Try.prog 32 #[.pointer (some ⟨d, 0, none⟩)] w fun e w' => ∃ v, e = .returned v ∧ w'.ownsRow w.heap.size 3 1 v fs.length ((fs.map DF.n).map encZ) ∧ Mod Nil w w' := by
  have c0 : w.cell? ⟨d, 0, none⟩ = some (.map (some m)) := heap_cell h.st 0
  have hown := h.mp
  have hlen : fs.length ≤ 1000 := by
    have := rising_length (fs.map DF.n) 1 1000 (by rw [List.pairwise_map]; exact h.sorted) (fun x hx => by obtain ⟨f, hf, rfl⟩ := List.mem_map.1 hx; exact h.rng f hf) (by omega)
    rw [List.length_map] at this
    omega
  have hsrt := h.sorted
  clear h
  refine (callsIn_wide (n := 6)).1 ?_
  have hbl := hown.lt
  have hD : Maps.size (pmap (dkeys fs)) = fs.length := by rw [pmap_size]; simp [dkeys]
  have hmx : Maps.size (pmap (dkeys fs)) ≤ maxLen := by rw [hD]; exact Nat.le_trans hlen (by decide)
  have hby : Maps.size (pmap (dkeys fs)) * 8 ≤ 140737488355328 := by rw [hD]; omega
  have hseq : SeqGives Fence.wide 2 Try.prog 73 #[.pointer (some ⟨w.heap.size, 0, none⟩)] encZ (fun ss => ss.Perm (intKeys (pmap (dkeys fs)))) (Maps.size (pmap (dkeys fs))) (w.alloc (.cells #[.map (some m)] 71)) :=
    AnyZI.keys_gives (ρ := Try.keysA_ren) { Try.keysA with } Fence.wide _ trivial rfl (by omega) w.heap.size m fs.length (pmap (dkeys fs)) _ (by simp) (by simp) (by
      obtain ⟨es, clock, hb, Ft, hs, hD⟩ := hown
      exact ⟨es, clock, (Below.heap_alloc _ _ m hbl).trans hb, Ft, hs, hD⟩)
  have cK : ∀ mb W, CallsIn Fence.wide 5 Try.prog 58 #[.map mb] W fun e w' => e = .returned (.func (.func 73) #[] #[.pointer (some ⟨W.heap.size, 0, none⟩)]) ∧ w' = W.alloc (.cells #[.map mb] 71) := fun mb W => AnyZI.keys_in Try.keysA Fence.wide 5 trivial rfl mb W
  have cS := AnyZI.sorted_in Try.sortedA Fence.wide 5 trivial trivial trivial trivial rfl (by omega) (sortsA _) (enters_of Try.func72 (by kernel_rfl) rfl) 73 #[.pointer (some ⟨w.heap.size, 0, none⟩)] trivial (enters_of Try.func73 (by kernel_rfl) rfl) _ _ hmx hby _ hseq
  change CallsIn _ _ Try.prog 57 _ _ _ at cS
  have hfK : Fence.wide.fn 58 := trivial
  have hfS : Fence.wide.fn 57 := trivial
  refine callsIn_of_wp Try.func32 rfl trivial ?_ rfl
  simp only [Try.ntmps32, List.size_toArray, List.length_cons, List.length_nil, Nat.reduceAdd, Nat.reduceSub, Array.replicate_succ, Array.replicate_zero, List.push_toArray, List.append_toArray, List.nil_append, List.cons_append]
  gi_wp2_with (first
    | (gi_at_call 58; refine (cK _ _).mono ?_; rintro e w' ⟨rfl, rfl⟩)
    | (gi_at_call 57; refine cS.mono ?_; rintro e w' ⟨v, ss, rfl, hS, hrow, hnil, hb⟩))
  go_ret
  have hperm : (ss.mergeSort (fun x y => decide (x ≤ y))) = fs.map DF.n := by
    rw [pmap_keys] at hS
    have hS' : ss.Perm (fs.map DF.n) := by simpa [dkeys, Function.comp_def] using hS
    refine List.Perm.eq_of_pairwise (le := (· ≤ ·)) (fun a b _ _ h1 h2 => Int.le_antisymm h1 h2) ?_ ?_ ((List.mergeSort_perm _ _).trans hS')
    · have := List.pairwise_mergeSort (le := fun x y : Int => decide (x ≤ y)) (by intro a b c; simp; omega) (by intro a b; simp; omega) ss
      simpa using this
    · rw [List.pairwise_map]
      exact hsrt.imp fun h => Int.le_of_lt h
  have hl : ss.length = fs.length := by have := congrArg List.length hperm; rwa [List.length_mergeSort, List.length_map] at this
  rw [hperm, hl] at hrow
  exact ⟨v, rfl, ownsRow_base_a hrow (by simp), Mod.of_below (((Below.refl _ w).alloc (Nat.le_refl _) _).trans (hb.mono (by simp))) _⟩
end Go.Proofs.Ytnfecdjcddidgaa
