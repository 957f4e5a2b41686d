/- The drum: append to a file that there was not. -/
import Derived.Test.YtnfecdjcddidgaaDrumB
namespace Go.Proofs.Ytnfecdjcddidgaa
open Go.RowKit Go.Maps

theorem insP_split {fs1 fs2 : List DF} {n : Int} {b : Nat} (h1 : ∀ g ∈ fs1, g.n < n) (h2 : ∀ g ∈ fs2, n < g.n) : insP n b (dkeys (fs1 ++ fs2)) = dkeys fs1 ++ (n, b) :: dkeys fs2 := by
  induction fs1 with
  | nil =>
    cases fs2 with
    | nil => rfl
    | cons g r => simp [dkeys, insP, h2 g (by simp)]
  | cons g r ih =>
    have hg := h1 g (by simp)
    have := ih (fun x hx => h1 x (by simp [hx]))
    simp only [dkeys, List.cons_append, List.map_cons, insP] at this ⊢
    rw [if_neg (by omega), this]

/-- A file more. -/
theorem Dr.inserted {w w' : World} {d m N : Nat} {fs1 fs2 : List DF} {f : DF} {s s' : DSt} {M : Nat → Prop} (h : Dr w d m (fs1 ++ fs2) s) (hm : Mod M w w') (hM : ∀ k, M k → k = d ∨ k = m ∨ w.heap.size ≤ k)
    (hst : w'.heap[d]? = some (.cells (s'.cells m) 73 (0, 0))) (hf : f.At w') (hbl : ∀ k ∈ f.blocks, w.heap.size ≤ k) (hnd : f.blocks.Nodup) (hr : 1 ≤ f.n ∧ f.n ≤ 1000) (h1 : ∀ g ∈ fs1, g.n < f.n) (h2 : ∀ g ∈ fs2, f.n < g.n)
    (hmp : w'.ownsMap Try.prog 3 Rptr m N ((pmap (dkeys (fs1 ++ fs2))).put (.int .i64 f.n) (.lit (.int .i64 f.fb)))) (hroom : 0 ≤ s'.free ∧ s'.free + dsum (fs1 ++ f :: fs2) ≤ 4194304) : Dr w' d m (fs1 ++ f :: fs2) s' := by
  have hno : ∀ g ∈ fs1 ++ fs2, g.n ≠ f.n := fun g hg => by
    rcases List.mem_append.1 hg with hg | hg
    · have := h1 g hg; omega
    · have := h2 g hg; omega
  have hkeys : dkeys (fs1 ++ f :: fs2) = dkeys fs1 ++ (f.n, f.fb) :: dkeys fs2 := by simp [dkeys]
  rw [pmap_put (by rw [List.any_eq_false]; intro p hp; simpa using h.noKey hno p hp), insP_split h1 h2, ← hkeys] at hmp
  have lt : ∀ {g}, g ∈ fs1 ++ fs2 → ∀ k ∈ g.blocks, k < w.heap.size := fun hg k hk => (h.fl _ hg).lt hk
  have kp : ∀ g ∈ fs1 ++ fs2, g.At w' := fun g hg => (h.fl g hg).kept hm fun k hk hmk => by
    have hin : k ∈ dfoot (fs1 ++ fs2) := mem_dfoot.2 ⟨g, hg, hk⟩
    rcases hM k hmk with rfl | rfl | h3
    · exact h.d_not hin
    · exact h.m_not hin
    · exact absurd (lt hg k hk) (by omega)
  have hap := h.apart
  have e1 : dfoot (fs1 ++ fs2) = dfoot fs1 ++ dfoot fs2 := by simp [dfoot]
  have e2 : dfoot (fs1 ++ f :: fs2) = dfoot fs1 ++ (f.blocks ++ dfoot fs2) := by simp [dfoot]
  rw [e1] at hap
  obtain ⟨a1, a2, a3⟩ := List.nodup_append.1 hap
  refine ⟨hst, ?_, ?_, ?_, ?_, ?_, hroom⟩
  · have := map_tight hmp
    simpa [dkeys] using this
  · intro g hg
    rcases List.mem_append.1 hg with hg | hg
    · exact kp g (by simp [hg])
    · rcases List.mem_cons.1 hg with rfl | hg
      · exact hf
      · exact kp g (by simp [hg])
  · rw [e2]
    have lt1 : ∀ x ∈ dfoot fs1, x < w.heap.size := fun x hx => by obtain ⟨g, hg, hk⟩ := mem_dfoot.1 hx; exact lt (by simp [hg]) x hk
    have lt2 : ∀ x ∈ dfoot fs2, x < w.heap.size := fun x hx => by obtain ⟨g, hg, hk⟩ := mem_dfoot.1 hx; exact lt (by simp [hg]) x hk
    refine List.nodup_append.2 ⟨a1, List.nodup_append.2 ⟨hnd, a2, fun x hx y hy hxy => ?_⟩, fun x hx y hy hxy => ?_⟩
    · subst hxy; have := hbl x hx; have := lt2 x hy; omega
    · subst hxy
      rcases List.mem_append.1 hy with hy | hy
      · have := hbl x hy; have := lt1 x hx; omega
      · exact a3 x hx x hy rfl
  · have := h.sorted
    rw [List.pairwise_append] at this ⊢
    refine ⟨this.1, List.pairwise_cons.2 ⟨h2, this.2.1⟩, fun a ha b hb => ?_⟩
    rcases List.mem_cons.1 hb with rfl | hb
    · exact h1 a ha
    · exact this.2.2 a ha b hb
  · intro g hg
    rcases List.mem_append.1 hg with hg | hg
    · exact h.rng g (by simp [hg])
    · rcases List.mem_cons.1 hg with rfl | hg
      · exact hr
      · exact h.rng g (by simp [hg])

set_option maxRecDepth 100000 in
set_option maxHeartbeats 1000000 in
theorem append_new {w : World} {d m b0 b1 b2 : Nat} {fs1 fs2 : List DF} {n : Int} {s : DSt} (h : Dr w d m (fs1 ++ fs2) s) {F : Nat → Prop} {A : Option Addr} {c : Nat} {bs : List (List UInt8)}
    (hF : ∀ b, F b → b < w.heap.size) (hS : SC Rbytes F w A bs) (hl : bs.length ≤ 140737488351232) (hroom : bs.flatten.length ≤ s.free) (hr : 1 ≤ n ∧ n ≤ 1000) (h1n : ∀ g ∈ fs1, g.n < n) (h2n : ∀ g ∈ fs2, n < g.n)
    (c0 : w.cell? ⟨b0, 0, none⟩ = some (.slice A bs.length c)) (c1 : w.cell? ⟨b1, 0, none⟩ = some (.pointer (some ⟨d, 0, none⟩))) (c2 : w.cell? ⟨b2, 0, none⟩ = some (.int .i64 n)) (hb1 : b1 ≠ d) (hb2 : b2 ≠ d) :
    Calls Try.prog 41 #[.pointer (some ⟨b0, 0, none⟩), .pointer (some ⟨b1, 0, none⟩), .pointer (some ⟨b2, 0, none⟩)] w fun e w' => e = .returned (.int .i64 0) ∧ ∃ f' : DF, f'.n = n ∧ f'.safe = [] ∧ f'.rest = bs.flatten ∧
      Dr w' d m (fs1 ++ f' :: fs2) { s with free := s.free - bs.flatten.length } ∧ Mod (fun k => k = d ∨ k = m) w w' ∧ ∀ k ∈ f'.blocks, w.heap.size ≤ k := by
  have hrm := h.room
  have hsn := dsum_nonneg (fs1 ++ fs2)
  have hcc := concat_any F A c bs w hF hS (by omega) hl
  clear hS
  go_enter Try.func41, Try.ntmps41
  go_wp2_with fail
  refine hcc.mono ?_
  rintro e w1 ⟨v, rfl, hown, hm⟩
  obtain ⟨A2, c2', rfl, _⟩ := own_form hown
  have hrd : SC Rdr.byte (fun b => w.heap.size ≤ b) w1 A2 bs.flatten := by
    obtain ⟨A3, c3, e3, _, h3⟩ := OB.reads (own_base (B' := 0) hown (fun _ _ => Nat.zero_le _))
    cases e3
    exact h3.mono (by decide) (fun b hb _ => (hown.lt b hb).1)
  obtain ⟨xs, hxs⟩ : ∃ xs, xs = bs.flatten := ⟨_, rfl⟩
  have hdw := heap_lt h.st
  have hmw := h.mp.lt
  rw [← hxs] at hroom hrd ⊢
  have HX := Lib.hid hxs
  clear hxs hown hcc
  have k1 : w1.cell? ⟨b1, 0, none⟩ = some (.pointer (some ⟨d, 0, none⟩)) := by
    rw [World.cell?_of_block (w := w) (hm.block _ (World.block_lt_of_cell? w _ c1) (fun h => h))]; exact c1
  have k2 : w1.cell? ⟨b2, 0, none⟩ = some (.int .i64 n) := by
    rw [World.cell?_of_block (w := w) (hm.block _ (World.block_lt_of_cell? w _ c2) (fun h => h))]; exact c2
  have l1 := World.block_lt_of_cell? w1 _ k1
  have l2 := World.block_lt_of_cell? w1 _ k2
  dsimp only at l1 l2
  have hsz := hm.size
  have h1 := h.kept hm (fun _ _ h => h)
  clear c0 c1 c2 h
  have kf : w1.cell? ⟨d, 1, none⟩ = some (.int .i64 s.free) := heap_cell h1.st 1
  have kz : w1.frozen? ⟨d, 1, none⟩ = false := heap_free h1.st 1
  have km : w1.cell? ⟨d, 0, none⟩ = some (.map (some m)) := heap_cell h1.st 0
  have hno : ∀ g ∈ fs1 ++ fs2, g.n ≠ n := fun g hg => by
    rcases List.mem_append.1 hg with hg | hg
    · have := h1n g hg; omega
    · have := h2n g hg; omega
  have hnk := h1.noKey hno
  have hwf : (Lit.int .i64 n).wf = true := WalkArith.wf_i64 (by omega)
  have hdm := h1.dm
  have hmp' := h1.mp.setCell (a := ⟨d, 1, none⟩) (fun e => hdm e.symm) (.int .i64 (s.free - xs.length))
  have hmp2 := hmp'.alloc (.cells #[.slice none 0 0, .slice none 0 0] 79)
  have hlenfs : (fs1 ++ fs2).length < maxLen := by
    have := h1.sorted
    have hh : ∀ (l : List DF) (a : Int), (∀ f ∈ l, a ≤ f.n ∧ f.n ≤ 1000) → l.Pairwise (fun f g => f.n < g.n) → (l.length : Int) ≤ 1001 - a ∨ l = [] := by
      intro l
      induction l with
      | nil => intro a _ _; exact .inr rfl
      | cons f r ih =>
        intro a ha hp
        refine .inl ?_
        have hf := ha f (by simp)
        rcases ih (f.n + 1) (fun g hg => ⟨by have := (List.pairwise_cons.1 hp).1 g hg; omega, (ha g (by simp [hg])).2⟩) (List.pairwise_cons.1 hp).2 with h | h
        · simp only [List.length_cons]; omega
        · subst h; simp; omega
    rcases hh _ 1 h1.rng this with h | h
    · simp only [maxLen]; omega
    · rw [h]; simp [maxLen]
  have hst := heap_setCell h1.st 1 (.int .i64 (s.free - xs.length))
  have hrd' : SC Rdr.byte (fun b => w.heap.size ≤ b ∧ b < w1.heap.size) (w1.setCell ⟨d, 1, none⟩ (.int .i64 (s.free - xs.length))) A2 xs :=
    (hrd.mono (by decide) (fun b hb hlt => ⟨hb, hlt⟩)).kept (by decide) ((Mod.refl (fun k => k = d) w1).setCell (p := ⟨d, 1, none⟩) (.inl rfl) _) (fun b hb _ e => by subst e; omega)
  have hfb : s.free ≤ 4194304 := by omega
  have H1 := Lib.hid h1
  have HST := Lib.hid hst
  have HRD := Lib.hid hrd'
  clear h1 hrm hsn hrd hno hst hrd'
  have hlt1 := heap_lt H1.out.st
  have hmlt := H1.out.mp.lt
  go_wp2
  refine wp_text mixed (by kernel_rfl) ?_
  go_wp2_with (at_lookup; go_loud (refine wp_look_miss rfl _ _ 71 rfl 3 76 keyI Try.underlying3 Try.underlying71 (zero76 _) m _ _ rfl hmp' n hwf rfl hnk ?_))
  refine nf_end (by kernel_rfl) ?_
  go_wp2
  refine wp_text mixed (by kernel_rfl) ?_
  go_wp2_with (at_mapUpdate; refine wpList_mapUpdate_in _ rfl _ _ _ 71 rfl 3 76 keyI Try.underlying71 Rptr m _ _ rfl hmp2 hlenfs _ _ _ rfl rfl (keyOf_int_mk Try.underlying3 hwf) _ [] (Rptr_ptr w1.heap.size) ?_; intro w2 hown2 hturn2)
  refine nf_end (by kernel_rfl) ?_
  have hg2 := hturn2.grown
  have hb2 : w2.heap[w1.heap.size]? = some (.cells #[.slice none 0 0, .slice none 0 0] 79 (0, 0)) :=
    (hg2.block w1.heap.size (by simp) (fun e => by have := Option.some.inj e; omega)).trans (by have := heap_new (w1.setCell ⟨d, 1, none⟩ (.int .i64 (s.free - xs.length))) (.cells #[.slice none 0 0, .slice none 0 0] 79); rw [World.size_setCell] at this; exact this)
  have g0 := heap_cell hb2 0
  have g1 := heap_cell hb2 1
  have hM2 : Mod (fun k => k = d ∨ k = m) w1 w2 := ((((Mod.refl _ w1).setCell (p := ⟨d, 1, none⟩) (.inl (.inl rfl)) (.int .i64 (s.free - xs.length))).alloc _).drew.drew).grown hg2 (fun k hk => by cases hk; exact .inl (.inr rfl))
  have hM2' : Mod (fun k => k = m) (w1.setCell ⟨d, 1, none⟩ (.int .i64 (s.free - xs.length))) w2 := (((Mod.refl _ _).alloc _).drew.drew).grown hg2 (fun k hk => by cases hk; exact .inl rfl)
  have hrd2 := HRD.out.kept (by decide) hM2' (fun b hb _ e => by omega)
  have hsz2 : w1.heap.size + 1 ≤ w2.heap.size := by have := hg2.size; simpa using this
  have HO2 := Lib.hid hown2
  clear hown2 hmp' hmp2
  go_wp2_with (at_builtin; refine wp_append_bytes rfl _ _ 39 5 rfl Try.underlying39 info5 0 (.slice none 0 0) [] rfl (World.ownsRow_nil _ _ _ _) _ A2 c2' xs _ rfl rfl hrd2 (by simp; omega) (Nat.zero_le _) ?_; intro v' w3 hown' hg hb' hn'; simp only [List.nil_append] at hown'; obtain ⟨A3, c3, rfl, _⟩ := own_form hown'; have hb3 := (hg.block w1.heap.size (by omega) (by simp [Value.ownBlock])).trans hb2; have q1 := heap_cell hb3 1; have z1 := heap_free hb3 1)
  go_wp2
  go_ret
  try rw [show (List.map List.length bs).sum = bs.flatten.length from by rw [List.length_flatten]]
  rw [← HX.out]
  let f' : DF := ⟨n, w1.heap.size, .slice none 0 0, .slice A3 xs.length c3, [], xs⟩
  have hnf : some w1.heap.size ≠ f'.rv.ownBlock := by
    intro e
    rcases hb' with hb' | hb' <;> rw [show f'.rv.ownBlock = _ from hb'] at e
    · cases e
    · have := Option.some.inj e; omega
  have hbl : ∀ k ∈ f'.blocks, w1.heap.size ≤ k := by
    intro k hk
    have hk' : k = w1.heap.size ∨ f'.rv.ownBlock = some k := by
      simpa [DF.blocks, f', Value.ownBlock] using hk
    rcases hk' with rfl | hk
    · exact Nat.le_refl _
    · rcases hb' with hb' | hb' <;> rw [show f'.rv.ownBlock = _ from hb'] at hk
      · cases hk
      · cases hk; omega
  have hM : Mod (fun k => k = d ∨ k = m) w1 (w3.setCell ⟨w1.heap.size, 1, none⟩ (.slice A3 xs.length c3)) :=
    (hM2.grown hg (fun k hk => by cases hk)).setCell (p := ⟨w1.heap.size, 1, none⟩) (.inr (Nat.le_refl _)) _
  have hnd : f'.blocks.Nodup := blocks_spec.2 ⟨by simp [f', Value.ownBlock], hnf, fun k hk => by cases hk⟩
  have hat : f'.At (w3.setCell ⟨w1.heap.size, 1, none⟩ (.slice A3 xs.length c3)) :=
    ⟨heap_setCell hb3 1 _, World.ownsRow_nil _ _ _ _, own_kept hown' ((Mod.refl (· = w1.heap.size) w3).setCell (p := ⟨w1.heap.size, 1, none⟩) (.inl rfl) _) fun k hk e => hnf (by subst e; exact hk.symm)⟩
  have hroom2 : 0 ≤ s.free - xs.length ∧ (s.free - xs.length) + dsum (fs1 ++ f' :: fs2) ≤ 4194304 := by
    have h1 := H1.out.room
    rw [dsum_append] at h1 ⊢
    simp only [dsum, DF.sz, f', List.length_nil] at h1 ⊢
    omega
  have hm3 : Mod (· = w1.heap.size) w2 (w3.setCell ⟨w1.heap.size, 1, none⟩ (.slice A3 xs.length c3)) :=
    ((Mod.refl (· = w1.heap.size) w2).grown hg (fun k hk => by cases hk)).setCell (p := ⟨w1.heap.size, 1, none⟩) (.inl rfl) _
  have hst := heap_mod (heap_mod HST.out hM2' hdm) hm3 (fun e => by omega)
  have hmp3 := map_kept HO2.out hm3 (fun e => by omega)
  exact ⟨rfl, f', rfl, rfl, rfl, H1.out.inserted (s' := { s with free := s.free - xs.length }) hM (fun k hk => hk.elim .inl (fun h => .inr (.inl h))) hst hat hbl hnd hr h1n h2n hmp3 hroom2,
    hm.trans hM (fun _ h => h.elim) (fun _ h => .inl h), fun k hk => by have := hbl k hk; omega⟩
end Go.Proofs.Ytnfecdjcddidgaa
