/- The drum's method Read. -/
import Derived.Test.YtnfecdjcddidgaaDrumE
namespace Go.Proofs.Ytnfecdjcddidgaa
open Go.RowKit Go.Maps

/-- What Read answers. -/
def readF (n : Int) (L : List PF) (s : DSt) : Int × List UInt8 :=
  if n < 1 ∨ 1000 < n then (2, []) else if s.dead = true then (140, []) else
  match pget n L with
  | none => (7, [])
  | some f => (0, f.safe ++ f.rest)

theorem read_arg {w : World} {d : Nat} {n : Int} (h : n < 1 ∨ 1000 < n) :
    Calls Try.prog 36 #[.pointer (some ⟨d, 0, none⟩), .int .i64 n] w fun e w' => e = .returned (.tuple #[.slice none 0 0, .int .i64 2]) ∧ w = w' := by
  by_cases h1 : n < 1
  · go_enter Try.func36, Try.ntmps36
    go_wp2
    go_ret2
    exact ⟨rfl, rfl⟩
  · have h2 : 1000 < n := by omega
    go_enter Try.func36, Try.ntmps36
    go_wp2
    go_ret2
    exact ⟨rfl, rfl⟩

theorem read_dead {w : World} {d m : Nat} {fs : List DF} {s : DSt} {n : Int} (h : Dr w d m fs s) (hn : 1 ≤ n ∧ n ≤ 1000) (hd : s.dead = true) :
    Calls Try.prog 36 #[.pointer (some ⟨d, 0, none⟩), .int .i64 n] w fun e w' => e = .returned (.tuple #[.slice none 0 0, .int .i64 140]) ∧ w = w' := by
  obtain ⟨n1, n2⟩ := hn
  have c3 : w.cell? ⟨d, 3, none⟩ = some (.bool true) := by rw [← hd]; exact heap_cell h.st 3
  clear h
  go_enter Try.func36, Try.ntmps36
  go_wp2
  go_ret2
  exact ⟨rfl, rfl⟩

set_option maxRecDepth 100000 in
theorem read_miss {w : World} {d m : Nat} {fs : List DF} {s : DSt} {n : Int} (h : Dr w d m fs s) (hr : 1 ≤ n ∧ n ≤ 1000) (hd : s.dead = false) (hno : ∀ f ∈ fs, f.n ≠ n) :
    Calls Try.prog 36 #[.pointer (some ⟨d, 0, none⟩), .int .i64 n] w fun e w' => e = .returned (.tuple #[.slice none 0 0, .int .i64 7]) ∧ Mod Nil w w' := by
  obtain ⟨n1, n2⟩ := hr
  have cm : w.cell? ⟨d, 0, none⟩ = some (.map (some m)) := heap_cell h.st 0
  have c3 : w.cell? ⟨d, 3, none⟩ = some (.bool false) := by rw [← hd]; exact heap_cell h.st 3
  have hmp := h.mp
  have hwf : (Lit.int .i64 n).wf = true := WalkArith.wf_i64 (by omega)
  have hnk := h.noKey hno
  clear h hno
  go_enter Try.func36, Try.ntmps36
  go_wp2_with (at_lookup; refine wp_look_miss rfl _ _ 71 rfl 3 76 keyI Try.underlying3 Try.underlying71 (zero76 _) m _ _ rfl hmp n hwf rfl hnk ?_)

  go_ret2
  exact ⟨rfl, Mod.refl _ w⟩

set_option maxRecDepth 100000 in
set_option maxHeartbeats 1000000 in
theorem read_hit {w : World} {d m : Nat} {fs1 fs2 : List DF} {f : DF} {s : DSt} (h : Dr w d m (fs1 ++ f :: fs2) s) (hd : s.dead = false) :
    Calls Try.prog 36 #[.pointer (some ⟨d, 0, none⟩), .int .i64 f.n] w fun e w' => ∃ v, e = .returned (.tuple #[v, .int .i64 0]) ∧ w'.ownsRow w.heap.size 5 1 v (f.safe ++ f.rest).length (bcells (f.safe ++ f.rest)) ∧ Mod Nil w w' := by
  have hin : f ∈ fs1 ++ f :: fs2 := by simp
  have cm : w.cell? ⟨d, 0, none⟩ = some (.map (some m)) := heap_cell h.st 0
  have c3 : w.cell? ⟨d, 3, none⟩ = some (.bool false) := by rw [← hd]; exact heap_cell h.st 3
  have hmp := h.mp
  obtain ⟨n1, n2⟩ := h.rng f hin
  have hwf : (Lit.int .i64 f.n).wf = true := WalkArith.wf_i64 (by omega)
  have hl : f.safe.length + f.rest.length ≤ 4194304 := by
    have h1 := h.room; have h2 := dsum_nonneg fs1; have h3 := dsum_nonneg fs2
    rw [dsum_append] at h1; simp only [dsum, DF.sz] at h1; omega
  have hks := dkeys_sorted h.sorted
  have hki : (f.n, f.fb) ∈ dkeys (fs1 ++ f :: fs2) := by simp [dkeys]
  obtain ⟨hb, hs, hr⟩ := h.fl f hin
  obtain ⟨A1, x1, es, hx1, hS⟩ := hs.reads
  obtain ⟨A2, x2, er, hx2, hR⟩ := hr.reads
  have f0 : w.cell? ⟨f.fb, 0, none⟩ = some (.slice A1 f.safe.length x1) := by rw [← es]; exact heap_cell hb 0
  have f1 : w.cell? ⟨f.fb, 1, none⟩ = some (.slice A2 f.rest.length x2) := by rw [← er]; exact heap_cell hb 1
  have hlt1 : ∀ b, f.sv.ownBlock = some b → b < w.heap.size := fun b hb => own_lt hs hb
  have hlt2 : ∀ b, f.rv.ownBlock = some b → b < w.heap.size := fun b hb => own_lt hr hb
  have HS := Lib.hid hS
  have HR := Lib.hid hR
  clear h hb hs hr hS hR es er
  go_enter Try.func36, Try.ntmps36
  go_wp2_with (at_lookup; refine wp_look_hit rfl _ _ 71 rfl 3 76 keyI Try.underlying3 Try.underlying71 (zero76 _) m _ _ rfl hmp f.n hwf rfl f.fb hks hki ?_)
  refine wp_text mixed (by kernel_rfl) ?_
  go_wp2_with fail
  have hF : ∀ b, (b < (w.drew.alloc (.cells #[.slice A1 f.safe.length x1, .slice A2 f.rest.length x2] 39 (0, 0))).heap.size) → b < (w.drew.alloc (.cells #[.slice A1 f.safe.length x1, .slice A2 f.rest.length x2] 39 (0, 0))).heap.size := fun _ h => h
  have hm1 : Mod Nil w (w.drew.alloc (.cells #[.slice A1 f.safe.length x1, .slice A2 f.rest.length x2] 39 (0, 0))) := (Mod.refl Nil w).drew.alloc _
  have hS2 : SC Rbytes (fun b => b < (w.drew.alloc (.cells #[.slice A1 f.safe.length x1, .slice A2 f.rest.length x2] 39 (0, 0))).heap.size) (w.drew.alloc (.cells #[.slice A1 f.safe.length x1, .slice A2 f.rest.length x2] 39 (0, 0))) (some ⟨w.heap.size, 0, none⟩) [f.safe, f.rest] := by
    intro _
    have hnw := heap_new w.drew (.cells #[.slice A1 f.safe.length x1, .slice A2 f.rest.length x2] 39 (0, 0))
    refine ⟨w.heap.size, 0, rfl, by rw [World.size_alloc]; exact Nat.lt_succ_self _, fun i hi => ?_⟩
    match i, hi with
    | 0, _ =>
      refine ⟨[.slice A1 f.safe.length x1], ⟨A1, x1, rfl, hx1, by show f.safe.length ≤ _; omega, (HS.out.kept (by decide) hm1 (fun _ _ _ h => h)).mono (by decide) fun b hb _ => Nat.lt_of_lt_of_le (hlt1 b hb) hm1.size⟩, ?_⟩
      intro j u hu
      match j, hu with
      | 0, hu => cases hu; exact heap_cell hnw 0
    | 1, _ =>
      refine ⟨[.slice A2 f.rest.length x2], ⟨A2, x2, rfl, hx2, by show f.rest.length ≤ _; omega, (HR.out.kept (by decide) hm1 (fun _ _ _ h => h)).mono (by decide) fun b hb _ => Nat.lt_of_lt_of_le (hlt2 b hb) hm1.size⟩, ?_⟩
      intro j u hu
      match j, hu with
      | 0, hu => cases hu; exact heap_cell hnw 1
  refine (concat_any _ _ _ [f.safe, f.rest] _ hF hS2 (by simp; omega) (by simp)).mono ?_
  rintro e w1 ⟨v, rfl, hown, hm⟩
  have e1 : [f.safe, f.rest].flatten = f.safe ++ f.rest := by simp
  rw [e1] at hown
  have HO := Lib.hid (own_base hown (B' := w.heap.size) fun k hk => Nat.le_trans hm1.size (hown.lt k hk).1)
  have HM := Lib.hid (hm1.then hm)
  clear hown hm hF hm1 hS2 e1
  go_wp2
  refine nf_end (by kernel_rfl) ?_
  go_wp2
  go_ret2
  exact ⟨_, rfl, HO.out, HM.out⟩

theorem read_any {w : World} {d m : Nat} {fs : List DF} {s : DSt} (h : Dr w d m fs s) (n : Int) :
    Calls Try.prog 36 #[.pointer (some ⟨d, 0, none⟩), .int .i64 n] w fun e w' => ∃ v, e = .returned (.tuple #[v, .int .i64 (readF n (absd fs) s).1]) ∧
      w'.ownsRow w.heap.size 5 1 v (readF n (absd fs) s).2.length (bcells (readF n (absd fs) s).2) ∧ Mod Nil w w' := by
  unfold readF
  by_cases h1 : n < 1 ∨ 1000 < n
  · rw [if_pos h1]
    refine (read_arg h1).mono ?_
    rintro e w' ⟨rfl, rfl⟩
    exact ⟨_, rfl, World.ownsRow_nil _ _ _ _, Mod.refl _ _⟩
  · rw [if_neg h1]
    have hn : 1 ≤ n ∧ n ≤ 1000 := by omega
    by_cases h2 : s.dead = true
    · rw [if_pos h2]
      refine (read_dead h hn h2).mono ?_
      rintro e w' ⟨rfl, rfl⟩
      exact ⟨_, rfl, World.ownsRow_nil _ _ _ _, Mod.refl _ _⟩
    · rw [if_neg h2]
      have hd : s.dead = false := by simpa using h2
      rcases split_at fs n h.sorted with ⟨fs1, f, fs2, rfl, rfl, l1, l2⟩ | ⟨fs1, fs2, rfl, l1, l2⟩
      · rw [absd_app, absd_cons, pget_abs l1]
        exact read_hit h hd
      · have hno : ∀ f ∈ fs1 ++ fs2, f.n ≠ n := fun f hf => (List.mem_append.1 hf).elim (fun hf => by have := l1 f hf; omega) (fun hf => by have := l2 f hf; omega)
        rw [pget_miss (fun g hg => by obtain ⟨f, hf, rfl⟩ := List.mem_map.1 hg; exact hno f hf)]
        refine (read_miss h hn hd hno).mono ?_
        rintro e w' ⟨rfl, hm⟩
        exact ⟨_, rfl, World.ownsRow_nil _ _ _ _, hm⟩
end Go.Proofs.Ytnfecdjcddidgaa
