/- The drum: append. -/
import Derived.Test.YtnfecdjcddidgaaDrum
namespace Go.Proofs.Ytnfecdjcddidgaa
open Go.RowKit Go.Maps

theorem Dr.nodup {w : World} {d m : Nat} {fs : List DF} {s : DSt} (h : Dr w d m fs s) {f : DF} (hf : f ∈ fs) : f.blocks.Nodup := by
  obtain ⟨l1, l2, rfl⟩ := List.append_of_mem hf
  have := h.apart
  simp only [dfoot, List.flatMap_append, List.flatMap_cons] at this
  exact (List.nodup_append.1 (List.nodup_append.1 this).2.1).1
theorem blocks_spec {f : DF} : f.blocks.Nodup ↔ some f.fb ≠ f.sv.ownBlock ∧ some f.fb ≠ f.rv.ownBlock ∧ (∀ k, f.sv.ownBlock = some k → f.rv.ownBlock ≠ some k) := by
  unfold DF.blocks
  cases f.sv.ownBlock <;> cases f.rv.ownBlock <;> simp <;> omega

theorem bs_len {bs : List (List UInt8)} (_ : True) : (List.map List.length bs).sum = bs.flatten.length := by rw [List.length_flatten]

set_option maxRecDepth 100000 in
set_option maxHeartbeats 1000000 in
theorem append_full {w : World} {d m b0 b1 b2 : Nat} {fs : List DF} {s : DSt} (h : Dr w d m fs s) {F : Nat → Prop} {A : Option Addr} {c : Nat} {bs : List (List UInt8)}
    (hF : ∀ b, F b → b < w.heap.size) (hS : SC Rbytes F w A bs) (hT : bs.flatten.length ≤ 140737488355328) (hl : bs.length ≤ 140737488351232) (hfull : s.free < bs.flatten.length)
    (c0 : w.cell? ⟨b0, 0, none⟩ = some (.slice A bs.length c)) (c1 : w.cell? ⟨b1, 0, none⟩ = some (.pointer (some ⟨d, 0, none⟩))) :
    Calls Try.prog 41 #[.pointer (some ⟨b0, 0, none⟩), .pointer (some ⟨b1, 0, none⟩), .pointer (some ⟨b2, 0, none⟩)] w fun e w' => e = .returned (.int .i64 5) ∧ Mod Nil w w' := by
  have hcc := concat_any F A c bs w hF hS hT hl
  have cf := heap_cell h.st 1
  have hr := h.room
  clear hS
  go_enter Try.func41, Try.ntmps41
  go_wp2_with fail
  refine hcc.mono ?_
  rintro e w1 ⟨v, rfl, hown, hm⟩
  obtain ⟨A2, c2, rfl, _⟩ := own_form hown
  obtain ⟨L, hL⟩ : ∃ L, L = bs.flatten.length := ⟨_, rfl⟩
  rw [← hL] at hfull hT hown ⊢
  have HL := Lib.hid hL
  clear hL
  have k1 : w1.cell? ⟨b1, 0, none⟩ = some (.pointer (some ⟨d, 0, none⟩)) := by
    rw [World.cell?_of_block (w := w) (hm.block _ (World.block_lt_of_cell? w _ c1) (fun h => h))]; exact c1
  have kf : w1.cell? ⟨d, 1, none⟩ = some (.int .i64 s.free) := heap_cell (h.kept hm (fun _ _ h => h)).st 1
  clear c0 c1 cf h hown
  go_wp2
  go_ret
  exact ⟨rfl, hm⟩

set_option maxRecDepth 100000 in
set_option maxHeartbeats 1000000 in
theorem append_hit {w : World} {d m b0 b1 b2 : Nat} {fs1 fs2 : List DF} {f : DF} {s : DSt} (h : Dr w d m (fs1 ++ f :: fs2) s) {F : Nat → Prop} {A : Option Addr} {c : Nat} {bs : List (List UInt8)}
    (hF : ∀ b, F b → b < w.heap.size) (hS : SC Rbytes F w A bs) (hl : bs.length ≤ 140737488351232) (hroom : bs.flatten.length ≤ s.free)
    (c0 : w.cell? ⟨b0, 0, none⟩ = some (.slice A bs.length c)) (c1 : w.cell? ⟨b1, 0, none⟩ = some (.pointer (some ⟨d, 0, none⟩))) (c2 : w.cell? ⟨b2, 0, none⟩ = some (.int .i64 f.n)) (hb1 : b1 ≠ d) (hb2 : b2 ≠ d) :
    Calls Try.prog 41 #[.pointer (some ⟨b0, 0, none⟩), .pointer (some ⟨b1, 0, none⟩), .pointer (some ⟨b2, 0, none⟩)] w fun e w' => e = .returned (.int .i64 0) ∧ ∃ f' : DF, f'.n = f.n ∧ f'.safe = f.safe ∧ f'.rest = f.rest ++ bs.flatten ∧
      Dr w' d m (fs1 ++ f' :: fs2) { s with free := s.free - bs.flatten.length } ∧ Mod (fun k => k ∈ f.blocks ∨ k = d) w w' ∧ ∀ k ∈ f'.blocks, k ∈ f.blocks ∨ w.heap.size ≤ k := by
  have hrm := h.room
  have hsn := dsum_nonneg (fs1 ++ f :: fs2)
  have hcc := concat_any F A c bs w hF hS (by omega) hl
  clear hS
  go_enter Try.func41, Try.ntmps41
  go_wp2_with fail
  refine hcc.mono ?_
  rintro e w1 ⟨v, rfl, hown, hm⟩
  obtain ⟨A2, c2', rfl, _⟩ := own_form hown
  have hrd : SC Rdr.byte (fun b => w.heap.size ≤ b) w1 A2 bs.flatten := by
    obtain ⟨A3, c3, e3, _, h3⟩ := OB.reads (own_base (B' := 0) hown (fun _ _ => Nat.zero_le _))
    cases e3
    exact h3.mono (by decide) (fun b hb _ => (hown.lt b hb).1)
  obtain ⟨xs, hxs⟩ : ∃ xs, xs = bs.flatten := ⟨_, rfl⟩
  have hdw := heap_lt h.st
  rw [← hxs] at hroom hrd ⊢
  have HX := Lib.hid hxs
  clear hxs hown hcc
  have k1 : w1.cell? ⟨b1, 0, none⟩ = some (.pointer (some ⟨d, 0, none⟩)) := by
    rw [World.cell?_of_block (w := w) (hm.block _ (World.block_lt_of_cell? w _ c1) (fun h => h))]; exact c1
  have k2 : w1.cell? ⟨b2, 0, none⟩ = some (.int .i64 f.n) := by
    rw [World.cell?_of_block (w := w) (hm.block _ (World.block_lt_of_cell? w _ c2) (fun h => h))]; exact c2
  have hsz := hm.size
  have h1 := h.kept hm (fun _ _ h => h)
  clear c0 c1 c2 h
  have hin : f ∈ fs1 ++ f :: fs2 := by simp
  have kf : w1.cell? ⟨d, 1, none⟩ = some (.int .i64 s.free) := heap_cell h1.st 1
  have kz : w1.frozen? ⟨d, 1, none⟩ = false := heap_free h1.st 1
  have km : w1.cell? ⟨d, 0, none⟩ = some (.map (some m)) := heap_cell h1.st 0
  have hf := h1.fl f hin
  have hl2 : s.free + f.safe.length + f.rest.length ≤ 4194304 := by
    have h2 := dsum_nonneg fs1; have h3 := dsum_nonneg fs2
    rw [dsum_append] at hrm; simp only [dsum, DF.sz] at hrm; omega
  have hks := dkeys_sorted h1.sorted
  have hki : (f.n, f.fb) ∈ dkeys (fs1 ++ f :: fs2) := by simp [dkeys]
  have hwf : (Lit.int .i64 f.n).wf = true := WalkArith.wf_i64 (by have := h1.rng _ hin; omega)
  have hdn := h1.d_not
  have hfd : f.fb ≠ d := fun e => hdn (mem_dfoot.2 ⟨f, hin, by rw [← e]; simp [DF.blocks]⟩)
  have hne := ne_own hf.b hf.r (by decide)
  obtain ⟨A0, c00, erv, _⟩ := own_form hf.r
  have f1 : w1.cell? ⟨f.fb, 1, none⟩ = some (.slice A0 f.rest.length c00) := by rw [← erv]; exact heap_cell hf.b 1
  have hmp' := h1.mp.setCell (a := ⟨d, 1, none⟩) (fun e => h1.dm e.symm) (.int .i64 (s.free - xs.length))
  have hW : Mod (fun k => k = d) w1 (w1.setCell ⟨d, 1, none⟩ (.int .i64 (s.free - xs.length))) := (Mod.refl (fun k => k = d) w1).setCell (p := ⟨d, 1, none⟩) (.inl rfl) _
  have hfr := hf.r
  rw [erv] at hfr
  have hro : (w1.setCell ⟨d, 1, none⟩ (.int .i64 (s.free - xs.length))).ownsRow 0 5 1 (.slice A0 f.rest.length c00) f.rest.length (bcells f.rest) := own_kept hfr hW (fun k hk e => hdn (mem_dfoot.2 ⟨f, hin, by subst e; simp [DF.blocks, erv, hk]⟩))
  have hrd' : SC Rdr.byte (fun b => w.heap.size ≤ b) (w1.setCell ⟨d, 1, none⟩ (.int .i64 (s.free - xs.length))) A2 xs := hrd.kept (by decide) hW (fun b hb _ e => by subst e; omega)
  have hbk : (w1.setCell ⟨d, 1, none⟩ (.int .i64 (s.free - xs.length))).heap[f.fb]? = some (.cells #[f.sv, f.rv] 79 (0, 0)) := heap_setCell_other hf.b hfd _
  have hne' := Lib.hid hne
  have hst := heap_setCell h1.st 1 (.int .i64 (s.free - xs.length))
  have hndr : some d ≠ (Value.slice A0 f.rest.length c00).ownBlock := ne_own h1.st hfr (by decide)
  have HND := Lib.hid hndr
  have HST := Lib.hid hst
  clear hst hndr hne
  have HF := Lib.hid hf
  have H1 := Lib.hid h1
  have HD := Lib.hid hdn
  have HE := Lib.hid erv
  clear hf h1 hdn erv hrm hsn hfr hrd
  go_wp2
  refine wp_text mixed (by kernel_rfl) ?_
  go_wp2_with (at_lookup; refine wp_look_hit rfl _ _ 71 rfl 3 76 keyI Try.underlying3 Try.underlying71 (zero76 _) m _ _ rfl hmp' f.n hwf rfl f.fb hks hki ?_)
  refine nf_end (by kernel_rfl) ?_
  go_wp2_with (at_builtin; refine wp_append_bytes rfl _ _ 39 5 rfl Try.underlying39 info5 0 (.slice A0 f.rest.length c00) f.rest rfl hro _ A2 c2' xs _ rfl rfl hrd' (by omega) (Nat.zero_le _) ?_; intro v' w2 hown' hg hb' hn'; obtain ⟨A3, c3, rfl, _⟩ := own_form hown'; rw [List.length_append] at hown' hb'; have hb2 := (hg.block f.fb (by simp; exact heap_lt HF.out.b) (by rw [← HE.out]; exact hne'.out)).trans hbk; have g1 := heap_cell hb2 1; have z1 := heap_free hb2 1)
  go_wp2
  go_ret
  rw [← HX.out]
  let f' : DF := ⟨f.n, f.fb, f.sv, .slice A3 (f.rest.length + xs.length) c3, f.safe, f.rest ++ xs⟩
  have hbl : ∀ k ∈ f'.blocks, k ∈ f.blocks ∨ w1.heap.size ≤ k := by
    intro k hk
    simp only [DF.blocks, List.mem_cons, List.mem_append, Option.mem_toList, Option.mem_def, f'] at hk ⊢
    rcases hk with hk | hk | hk
    · exact .inl (.inl hk)
    · exact .inl (.inr (.inl hk))
    · rcases hb' with hb' | hb'
      · rw [hb', ← HE.out] at hk; exact .inl (.inr (.inr hk))
      · rw [hb'] at hk; cases hk; exact .inr (by simp)
  have hblk := blocks_spec.1 (H1.out.nodup hin)
  have hrvn : f'.rv.ownBlock = f.rv.ownBlock ∨ f'.rv.ownBlock = some w1.heap.size := by
    rcases hb' with hb' | hb'
    · exact .inl (by rw [HE.out]; exact hb')
    · exact .inr (by rw [show f'.rv.ownBlock = _ from hb']; simp)
  have hM : Mod (fun k => k ∈ f.blocks ∨ k = d) w1 (w2.setCell ⟨f.fb, 1, none⟩ (.slice A3 (f.rest.length + xs.length) c3)) :=
    ((((Mod.refl _ w1).setCell (p := ⟨d, 1, none⟩) (.inl (.inr rfl)) (.int .i64 (s.free - xs.length))).drew).grown hg (fun k (hk : (Value.slice A0 f.rest.length c00).ownBlock = some k) => .inl (.inl (by
      rw [← HE.out] at hk; simp [DF.blocks, hk])))).setCell (p := ⟨f.fb, 1, none⟩) (.inl (.inl (by simp [DF.blocks]))) _
  have hM2 : Mod (fun k => k = d ∨ f.rv.ownBlock = some k ∨ k = f.fb) w1 (w2.setCell ⟨f.fb, 1, none⟩ (.slice A3 (f.rest.length + xs.length) c3)) :=
    ((((Mod.refl _ w1).setCell (p := ⟨d, 1, none⟩) (.inl (.inl rfl)) (.int .i64 (s.free - xs.length))).drew).grown hg (fun k (hk : (Value.slice A0 f.rest.length c00).ownBlock = some k) => .inl (.inr (.inl (by rw [← HE.out] at hk; exact hk))))).setCell (p := ⟨f.fb, 1, none⟩) (.inl (.inr (.inr rfl))) _
  have hnd : f'.blocks.Nodup := by
    refine blocks_spec.2 ⟨hblk.1, ?_, fun k hk => ?_⟩
    · rcases hrvn with h | h <;> rw [h]
      · exact hblk.2.1
      · intro e; have h1 : f.fb = w1.heap.size := Option.some.inj e; have := heap_lt HF.out.b; omega
    · rcases hrvn with h | h <;> rw [h]
      · exact hblk.2.2 k hk
      · intro e; have h1 : w1.heap.size = k := Option.some.inj e; have := own_lt HF.out.s hk; omega
  have hat : f'.At (w2.setCell ⟨f.fb, 1, none⟩ (.slice A3 (f.rest.length + xs.length) c3)) := by
    refine ⟨heap_setCell hb2 1 _, own_kept HF.out.s hM2 fun k hk hn => ?_, ?_⟩
    · rcases hn with e | e | e
      · exact HD.out (mem_dfoot.2 ⟨f, hin, by rw [← e]; exact List.mem_cons_of_mem _ (List.mem_append_left _ (by rw [hk]; simp))⟩)
      · exact hblk.2.2 k hk e
      · exact hblk.1 (by rw [hk, e])
    · show World.ownsRow _ 0 5 1 (.slice A3 (f.rest.length + xs.length) c3) (f.rest ++ xs).length _
      rw [List.length_append]
      refine own_kept hown' ((Mod.refl (· = f.fb) w2).setCell (p := ⟨f.fb, 1, none⟩) (.inl rfl) _) fun k hk e => ?_
      subst e
      rcases hrvn with h | h
      · exact hblk.2.1 (by rw [← h]; exact hk.symm)
      · have : f'.rv.ownBlock = some f.fb := hk
        rw [h] at this; have h1 : w1.heap.size = f.fb := Option.some.inj this; have := heap_lt HF.out.b; omega
  have hroom2 : 0 ≤ s.free - xs.length ∧ (s.free - xs.length) + dsum (fs1 ++ f' :: fs2) ≤ 4194304 := by
    have h1 := H1.out.room
    rw [dsum_append] at h1 ⊢
    simp only [dsum, DF.sz, f', List.length_append] at h1 ⊢
    omega
  have hstd : (w2.setCell ⟨f.fb, 1, none⟩ (.slice A3 (f.rest.length + xs.length) c3)).heap[d]? = some (.cells (({ s with free := s.free - xs.length } : DSt).cells m) 73 (0, 0)) :=
    heap_setCell_other ((hg.block d (by simp; exact heap_lt H1.out.st) HND.out).trans HST.out) (fun e => hfd e.symm) _
  exact ⟨rfl, f', rfl, rfl, rfl, H1.out.replace hM (fun k hk => hk.elim .inl (fun e => .inr (.inr e))) hstd hat rfl rfl hbl hnd hroom2,
    hm.trans hM (fun _ h => h.elim) (fun _ h => .inl h), fun k hk => (hbl k hk).imp id (fun h => by omega)⟩
end Go.Proofs.Ytnfecdjcddidgaa
