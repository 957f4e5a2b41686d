/- The drum's method Crash: the walk. -/
import Derived.Test.YtnfecdjcddidgaaCrashA
namespace Go.Proofs.Ytnfecdjcddidgaa
open Go.RowKit Go.Maps

/-- The world on the way through the map: what is still to come is as it was; the others are cut. -/
structure Mid (w0 : World) (d m r : Nat) (fs : List DF) (s : DSt) (ts : List Tail) (wr : World) (left : Lit → Bool) (cnt : Nat) (gs : List DF) (f : Int) : Prop where
  rg : wr.ranges Try.prog 3 Rptr m r fs.length (pmap (dkeys fs)) left cnt
  dr : Dr wr d m gs { s with free := f, left := -1, dead := false }
  keys : dkeys gs = dkeys fs
  abs : absd gs = (absd fs).map fun p => if left (.int .i64 p.n) then p else p.crash ts
  sum : f + psum (absd gs) = s.free + psum (absd fs)
  mod : Mod (fun b => b ∈ Dr.foot d m fs) w0 wr
  foot : ∀ b ∈ Dr.foot d m gs, b ∈ Dr.foot d m fs ∨ w0.heap.size ≤ b
  not : r ∉ Dr.foot d m gs
  new : w0.heap.size ≤ r

def crashF (ts : List Tail) (L : List PF) (s : DSt) : List PF × DSt :=
  let L' := L.map (PF.crash ts)
  (L', { s with free := s.free + psum L - psum L', left := -1, dead := false })

theorem psum_append : ∀ a b : List PF, psum (a ++ b) = psum a + psum b
  | [], b => by simp [psum]
  | f :: r, b => by simp only [List.cons_append, psum, psum_append r b]; omega

theorem Mid.step {w0 wr w3 w8 : World} {d m r : Nat} {fs : List DF} {s : DSt} {ts : List Tail} {left : Lit → Bool} {cnt cnt' : Nat} {gs1 gs2 : List DF} {g : DF} {f : Int} {v : Value}
    (h : Mid w0 d m r fs s ts wr left cnt (gs1 ++ g :: gs2) f) (hlg : left (.int .i64 g.n) = true) (hM3 : Mod (· = r) wr w3) (hD3 : Dr w3 d m (gs1 ++ g :: gs2) { s with free := f, left := -1, dead := false })
    (hR3 : w3.ranges Try.prog 3 Rptr m r fs.length (pmap (dkeys fs)) (fun z => left z && !z.sameKey (.int .i64 g.n)) cnt')
    (hW : Mod (fun k => g.rv.ownBlock = some k ∨ k = d ∨ g.sv.ownBlock = some k ∨ k = g.fb) w3 w8)
    (hd8 : w8.heap[d]? = some (.cells (({ s with free := f + ((g.rest.length : Int) - (tkeep (ttail g.n ts) g.rest : Nat)), left := -1, dead := false } : DSt).cells m) 73 (0, 0)))
    (hfb8 : w8.heap[g.fb]? = some (.cells #[v, .slice none 0 0] 79 (0, 0))) (ho : OB w8 5 v (g.safe ++ tkept (ttail g.n ts) g.rest)) (hv : v.ownBlock = g.sv.ownBlock ∨ ∃ b, v.ownBlock = some b ∧ w3.heap.size ≤ b) :
    Mid w0 d m r fs s ts w8 (fun z => left z && !z.sameKey (.int .i64 g.n)) cnt' (gs1 ++ ⟨g.n, g.fb, v, .slice none 0 0, g.safe ++ tkept (ttail g.n ts) g.rest, []⟩ :: gs2) (f + ((g.rest.length : Int) - (tkeep (ttail g.n ts) g.rest : Nat))) := by
  have hin : g ∈ gs1 ++ g :: gs2 := by simp
  obtain ⟨n1, n2, n3⟩ := blocks_spec.1 (hD3.nodup hin)
  have hrlt : r < wr.heap.size := h.rg.lt
  have hMg : ∀ k, (g.rv.ownBlock = some k ∨ k = d ∨ g.sv.ownBlock = some k ∨ k = g.fb) → k ∈ g.blocks ∨ k = d := by
    rintro k (e | e | e | e)
    · exact .inl (by simp [DF.blocks, e])
    · exact .inr e
    · exact .inl (by simp [DF.blocks, e])
    · exact .inl (by simp [DF.blocks, e])
  have hnotM : ∀ k, k ∉ Dr.foot d m (gs1 ++ g :: gs2) ∨ k = m → ¬ (g.rv.ownBlock = some k ∨ k = d ∨ g.sv.ownBlock = some k ∨ k = g.fb) := by
    intro k hk e
    rcases hMg k e with e | e
    · rcases hk with hk | rfl
      · exact hk (foot_f hin e)
      · exact hD3.m_not (mem_dfoot.2 ⟨g, hin, e⟩)
    · rcases hk with hk | rfl
      · exact hk (e ▸ foot_d)
      · exact hD3.dm e.symm
  have hkl := tkeep_le (ttail g.n ts) g.rest
  have hklen := tkept_length (ttail g.n ts) g.rest
  have hfit := hD3.fits hin
  dsimp only at hfit
  have hroom := hD3.room
  dsimp only at hroom
  let g' : DF := ⟨g.n, g.fb, v, .slice none 0 0, g.safe ++ tkept (ttail g.n ts) g.rest, []⟩
  have hsz : (g'.sz : Int) = g.safe.length + (tkeep (ttail g.n ts) g.rest : Nat) := by simp only [DF.sz, g', List.length_append, List.length_nil, hklen]; omega
  have hbl : ∀ k ∈ g'.blocks, k ∈ g.blocks ∨ w3.heap.size ≤ k := by
    intro k hk
    simp only [DF.blocks, g', List.mem_cons, List.mem_append, Option.mem_toList, Option.mem_def] at hk ⊢
    rcases hk with rfl | hk | hk
    · exact .inl (.inl rfl)
    · rcases hv with hv | ⟨b, hv, hb⟩
      · exact .inl (.inr (.inl (hv ▸ hk)))
      · rw [hv] at hk; cases hk; exact .inr hb
    · cases hk
  have hlt : g.fb < w3.heap.size := heap_lt (hD3.fl g hin).b
  have hnd' : g'.blocks.Nodup := by
    refine blocks_spec.2 ⟨?_, (fun e => by cases e), (fun k _ e => by cases e)⟩
    show some g.fb ≠ v.ownBlock
    rcases hv with hv | ⟨b, hv, hb⟩
    · rw [hv]; exact n1
    · rw [hv]; intro e; have e := Option.some.inj e; omega
  have hD8 : Dr w8 d m (gs1 ++ g' :: gs2) { s with free := f + ((g.rest.length : Int) - (tkeep (ttail g.n ts) g.rest : Nat)), left := -1, dead := false } := by
    refine hD3.replace (f' := g') (s' := { s with free := f + ((g.rest.length : Int) - (tkeep (ttail g.n ts) g.rest : Nat)), left := -1, dead := false }) hW (fun k hk => (hMg k hk).elim .inl fun e => .inr (.inr e)) hd8 ⟨hfb8, ho, World.ownsRow_nil _ _ _ _⟩ rfl rfl hbl hnd' ?_
    rw [dsum_append] at hroom ⊢
    simp only [dsum, hsz] at hroom ⊢
    simp only [DF.sz] at hroom
    omega
  have habs : absd (gs1 ++ g' :: gs2) = pturn g.n (PF.crash ts) (absd (gs1 ++ g :: gs2)) := by
    have hs := hD3.sorted
    rw [List.pairwise_append, List.pairwise_cons] at hs
    rw [absd_app, absd_cons, absd_app, absd_cons, pturn_abs (fun x hx => hs.2.2 x hx g (by simp)) (fun x hx => hs.2.1.1 x hx)]
    rfl
  have hfoot : ∀ b ∈ Dr.foot d m (gs1 ++ g' :: gs2), b ∈ Dr.foot d m (gs1 ++ g :: gs2) ∨ w3.heap.size ≤ b := by
    intro b hb
    rcases foot_mid hb with hb | hb
    · exact .inl (foot_more hb)
    · exact (hbl b hb).imp (foot_f hin) id
  have hsz3 : w0.heap.size ≤ w3.heap.size := Nat.le_trans h.mod.size hM3.size
  refine ⟨ranges_mod hR3 hW (hnotM m (.inr rfl)) (hnotM r (.inl h.not)), hD8, ?_, ?_, ?_, ?_, ?_, ?_, h.new⟩
  · rw [← h.keys]; simp [dkeys]
  · rw [habs, h.abs, pturn, List.map_map]
    apply List.map_congr_left
    intro p _
    simp only [Function.comp_apply]
    by_cases hp : p.n = g.n
    · rw [hp, if_pos hlg, if_pos hp, if_neg (by simp [Lit.sameKey])]
    · have e1 : (Lit.int IntKind.i64 p.n).sameKey (.int .i64 g.n) = false := by simp [Lit.sameKey, hp]
      rw [e1]
      by_cases hl : left (.int .i64 p.n) = true
      · rw [if_pos hl, if_neg hp, if_pos (by simp [hl])]
      · rw [if_neg hl, if_neg (show ¬ (p.crash ts).n = g.n from hp), if_neg (by simp [hl])]
  · have hsum := h.sum
    have e1 : psum (absd (gs1 ++ g' :: gs2)) = dsum gs1 + ((g.safe.length + (tkeep (ttail g.n ts) g.rest : Nat) : Int) + dsum gs2) := by rw [psum_abs, dsum_append, dsum, hsz]
    have e2 : psum (absd (gs1 ++ g :: gs2)) = dsum gs1 + ((g.safe.length + g.rest.length : Int) + dsum gs2) := by rw [psum_abs, dsum_append, dsum, DF.sz]; omega
    show f + _ + psum (absd (gs1 ++ g' :: gs2)) = _
    omega
  · refine (h.mod.trans hM3 (M := fun b => b ∈ Dr.foot d m fs) (fun k hk => .inl hk) (fun k hk => .inr (hk ▸ h.new))).trans hW (fun k hk => .inl hk) fun k hk => ?_
    rcases hMg k hk with e | e
    · exact h.foot k (foot_f hin e)
    · exact .inl (e ▸ foot_d)
  · intro b hb
    rcases hfoot b hb with hb | hb
    · exact h.foot b hb
    · exact .inr (by omega)
  · intro hr
    rcases hfoot r hr with hr | hr
    · exact h.not hr
    · have := hM3.size; omega

set_option maxRecDepth 100000 in
set_option maxHeartbeats 2000000 in
theorem crash_any {w : World} {d m : Nat} {fs : List DF} {s : DSt} (h : Dr w d m fs s) {c : Nat} {F : Nat → Prop} {A : Option Addr} {ts : List Tail} (hF : ∀ b, F b → b < w.heap.size) (hFd : ∀ b, F b → b ∉ Dr.foot d m fs) (hS : SC Rtail F w A ts) (hl : ts.length ≤ 140737488351232) :
    Calls Try.prog 22 #[.pointer (some ⟨d, 0, none⟩), .slice A ts.length c] w fun e w' => e = .returned (.tuple #[]) ∧ ∃ fs', Dr w' d m fs' (crashF ts (absd fs) s).2 ∧ absd fs' = (crashF ts (absd fs) s).1 ∧ Mod (fun b => b ∈ Dr.foot d m fs) w w' ∧ ∀ b ∈ Dr.foot d m fs', b ∈ Dr.foot d m fs ∨ w.heap.size ≤ b := by
  have c0 : w.cell? ⟨d, 0, none⟩ = some (.map (some m)) := heap_cell h.st 0
  have c2 : w.cell? ⟨d, 2, none⟩ = some (.int .i64 s.left) := heap_cell h.st 2
  have c3 : w.cell? ⟨d, 3, none⟩ = some (.bool s.dead) := heap_cell h.st 3
  have z2 : w.frozen? ⟨d, 2, none⟩ = false := heap_free h.st 2
  have z3 : w.frozen? ⟨d, 3, none⟩ = false := heap_free h.st 3
  let w1 := (w.setCell ⟨d, 3, none⟩ (.bool false)).setCell ⟨d, 2, none⟩ (.int .i64 (-1))
  have hm1 : Mod (· = d) w w1 := ((Mod.refl (· = d) w).setCell (p := ⟨d, 3, none⟩) (.inl rfl) _).setCell (p := ⟨d, 2, none⟩) (.inl rfl) _
  have hD1 : Dr w1 d m fs { s with left := -1, dead := false } := h.set (s' := { s with left := -1, dead := false }) hm1 h.room (heap_setCell (heap_setCell h.st 3 _) 2 _)
  have hown := hD1.mp
  have HS := Lib.hid hS
  have H1 := Lib.hid hD1
  have HM1 := Lib.hid hm1
  clear h hS hm1 hD1
  go_enter Try.func22, Try.ntmps22
  go_wp2_with (at_range; refine wpList_range_own _ rfl _ 71 rfl 3 76 keyI Try.underlying71 Rptr m fs.length (pmap (dkeys fs)) rfl hown ?_; intro w2 hrg0 hg0 hs0)
  go_frame
  have e0 : w1.heap.size = w.heap.size := by simp [w1]
  rw [e0] at hrg0
  have M0 : Mid w d m w.heap.size fs s ts w2 (Maps.has (pmap (dkeys fs))) (Maps.size (pmap (dkeys fs))) fs s.free := by
    have hm2 : Mod Nil w1 w2 := ⟨hg0.os, hg0.tape, hg0.output, hg0.size, fun k hk _ => hg0.block k hk (by simp)⟩
    refine ⟨hrg0, H1.out.kept hm2 (fun k _ hk => hk), rfl, ?_, rfl, HM1.out.trans hm2 (fun k hk => .inl (hk ▸ foot_d)) (fun _ hk => hk.elim), fun b hb => .inl hb, fun hr => ?_, Nat.le_refl _⟩
    · symm
      conv => rhs; rw [← List.map_id (absd fs)]
      apply List.map_congr_left
      intro p hp
      obtain ⟨f, hf, rfl⟩ := List.mem_map.1 hp
      rw [if_pos]; rfl
      rw [pmap_has, List.any_eq_true]
      exact ⟨(f.n, f.fb), List.mem_map.2 ⟨f, hf, rfl⟩, by simp [DF.abs]⟩
    · have := H1.out.lt hr
      omega
  clear hrg0 hg0 hown
  rw [show ((w.setCell ⟨d, 3, none⟩ (.bool false)).setCell ⟨d, 2, none⟩ (.int .i64 (-1))).heap.size = w.heap.size from by simp]
  go_loopw [7] (fun _ wr => ∃ left cnt gs f, Mid w d m w.heap.size fs s ts wr left cnt gs f) (fun _ wr => wr.rangeLeft m w.heap.size)
  case atStart => exact ⟨_, _, _, _, M0⟩
  case round =>
    obtain ⟨left, cnt, gs, f, hmid⟩ := hrel
    have HMid := Lib.hid hmid
    have hrg := hmid.rg
    clear hmid M0
    go_wp2_with (at_next; refine wp_next_ptr _ rfl _ rfl 3 keyI Try.underlying3 m w.heap.size fs.length (dkeys fs) left cnt rfl hrg ?_ ?_)
    · intro hdone
      go_wp2
      go_end0
      have hM := HMid.out
      have e1 : absd gs = (absd fs).map (PF.crash ts) := by rw [hM.abs]; exact List.map_congr_left fun p _ => by rw [hdone]; rfl
      have e2 : f = s.free + psum (absd fs) - psum ((absd fs).map (PF.crash ts)) := by have := hM.sum; rw [e1] at this; omega
      refine ⟨rfl, gs, ?_, e1, hM.mod, hM.foot⟩
      have := hM.dr
      rw [e2] at this
      exact this
    · intro n fb w3 cnt' hin hln hrg3 hcl hg3 hs3 hen
      have hM := HMid.out
      have hm3 : Mod (· = w.heap.size) wr w3 := mod_of_grown hg3
      have hD3 : Dr w3 d m gs { s with free := f, left := -1, dead := false } := hM.dr.kept hm3 fun k hk e => hM.not (e ▸ hk)
      obtain ⟨g, hg, hgn⟩ : ∃ g ∈ gs, (g.n, g.fb) = (n, fb) := by
        have : (n, fb) ∈ dkeys gs := by rw [hM.keys]; exact hin
        obtain ⟨g, hg, e⟩ := List.mem_map.1 this
        exact ⟨g, hg, e⟩
      cases hgn
      obtain ⟨gs1, gs2, rfl⟩ := List.append_of_mem hg
      have hfl := hD3.fl g (by simp)
      have hS3 := HS.out.frame (w' := w3) (by decide) fun b hb hlt => (hm3.block b (Nat.lt_of_lt_of_le hlt hM.mod.size) (fun e => by have := hF b hb; omega)).trans (hM.mod.block b hlt (hFd b hb))
      have hsz3 : w.heap.size ≤ w3.heap.size := by rw [hs3]; exact hM.mod.size
      obtain ⟨hfr1, hfr2⟩ := hD3.fits (f := g) (by simp)
      dsimp only at hfr1 hfr2
      have HD3 := Lib.hid hD3
      have HS3 := Lib.hid hS3
      have HR3 := Lib.hid hrg3
      have HM3 := Lib.hid hm3
      have HFL := Lib.hid hfl
      clear hM hm3 hD3 hS3 hrg hrg3 hfl hg3
      go_wp2_with fail
      have hm4 : Mod Nil w3 ((w3.alloc (Obj.cells #[Value.int IntKind.i64 g.n] 3)).alloc (Obj.cells #[Value.int IntKind.i64 0, Value.int IntKind.i64 0, Value.int IntKind.u8 0] 67)) := ((Mod.refl Nil w3).alloc _).alloc _
      have hb4 : ((w3.alloc (Obj.cells #[Value.int IntKind.i64 g.n] 3)).alloc (Obj.cells #[Value.int IntKind.i64 0, Value.int IntKind.i64 0, Value.int IntKind.u8 0] 67)).cell? ⟨wr.heap.size, 0, none⟩ = some (.int .i64 g.n) := by
        rw [← hs3]; exact heap_cell (heap_alloc (heap_new _ _) _) 0
      have hT4 : ((w3.alloc (Obj.cells #[Value.int IntKind.i64 g.n] 3)).alloc (Obj.cells #[Value.int IntKind.i64 0, Value.int IntKind.i64 0, Value.int IntKind.u8 0] 67)).heap[wr.heap.size + 1]? = some (Obj.cells #[Value.int IntKind.i64 0, Value.int IntKind.i64 0, Value.int IntKind.u8 0] 67 (0, 0)) := by
        have := heap_new (w3.alloc (Obj.cells #[Value.int IntKind.i64 g.n] 3)) (Obj.cells #[Value.int IntKind.i64 0, Value.int IntKind.i64 0, Value.int IntKind.u8 0] 67)
        rwa [World.size_alloc, hs3] at this
      refine (index_any hb4 (fun b hb => by have := hF b hb; have := hm4.size; omega) (HS3.out.kept (by decide) hm4 (fun _ _ _ h => h)) hl).mono ?_
      rintro e w5 ⟨rfl, hm45⟩
      have hm5 := hm4.then hm45
      have hT5 := heap_mod hT4 hm45 (fun h => h)
      have hS5 := HS3.out.kept (by decide) hm5 (fun _ _ _ h => h)
      have HT5 := Lib.hid hT5
      have HM5 := Lib.hid hm5
      have HS5 := Lib.hid hS5
      clear hm4 hb4 hT4 hm45 hm5 hT5 hS5
      go_upto_if 32 with fail
      go_cut [7] from 23 to 90 (fun _ wc => Mod Nil w3 wc ∧ wc.heap[wr.heap.size + 1]? = some (.cells #[.int .i64 (ttail g.n ts).file, .int .i64 (ttail g.n ts).keep, .int .u8 (ttail g.n ts).turn.toNat] 67 (0, 0)))
      case first =>
        by_cases hneg : tfind g.n ts < 0
        · have ht := ttail_none hneg
          go_wp2
          go_meet
          case rel => exact ⟨HM5.out, by rw [ht]; exact HT5.out⟩
        · obtain ⟨i, hi, hti, htt⟩ := ttail_some hneg
          obtain ⟨b', o, cs, rfl, hFb, ⟨rfl, hw1, hw2⟩, hc⟩ := HS5.out.at_ hi
          rw [htt] at hc
          have k0 : w5.cell? ⟨b', o + i * 3, none⟩ = some (.int .i64 (ttail g.n ts).file) := hc 0 _ rfl
          have k1 : w5.cell? ⟨b', o + i * 3 + 1, none⟩ = some (.int .i64 (ttail g.n ts).keep) := hc 1 _ rfl
          have k2 : w5.cell? ⟨b', o + i * 3 + 2, none⟩ = some (.int .u8 (ttail g.n ts).turn.toNat) := hc 2 _ rfl
          have q0 := heap_cell HT5.out 0
          have q1 := heap_cell HT5.out 1
          have q2 := heap_cell HT5.out 2
          have y0 := heap_free HT5.out 0
          have y1 := heap_free HT5.out 1
          have y2 := heap_free HT5.out 2
          rw [hti]
          clear hc hneg
          go_wp2
          go_meet
          case rel =>
            exact ⟨((HM5.out.setCell (p := ⟨wr.heap.size + 1, 0, none⟩) (.inr (by rw [← hs3]; exact Nat.le_succ _)) _).setCell (p := ⟨wr.heap.size + 1, 1, none⟩) (.inr (by rw [← hs3]; exact Nat.le_succ _)) _).setCell (p := ⟨wr.heap.size + 1, 2, none⟩) (.inr (by rw [← hs3]; exact Nat.le_succ _)) _,
              heap_setCell (heap_setCell (heap_setCell HT5.out 0 _) 1 _) 2 _⟩
      case rest =>
        obtain ⟨hmc, hTc⟩ := hcut
        obtain ⟨hb, hs, hr⟩ := HFL.out.kept hmc (fun _ _ h => h)
        obtain ⟨A2, x2, er, hx2, hR⟩ := hr.reads
        have f1 : wc.cell? ⟨g.fb, 1, none⟩ = some (.slice A2 g.rest.length x2) := by rw [← er]; exact heap_cell hb 1
        have q1 := heap_cell hTc 1
        have q2 := heap_cell hTc 2
        have HB := Lib.hid hb
        have HSV := Lib.hid hs
        have HRV := Lib.hid hr
        have HRD := Lib.hid hR
        have HMC := Lib.hid hmc
        have HER := Lib.hid er
        clear hb hs hr hR hmc hTc er
        go_wp2
        refine wp_text mixed (by kernel_rfl) ?_
        go_wp2_with fail
        refine nf_end (by kernel_rfl) ?_
        rw [show (max 0 (min (ttail g.n ts).keep ↑g.rest.length)).toNat = tkeep (ttail g.n ts) g.rest from rfl]
        have hk := tkeep_le (ttail g.n ts) g.rest
        generalize hkk : tkeep (ttail g.n ts) g.rest = k at hk
        have q2' : wc.drew.cell? ⟨wr.heap.size + 1, 2, none⟩ = some (.int .u8 (ttail g.n ts).turn.toNat) := q2
        go_upto_if 54 with fail
        go_cut [9] from 23 to 90 (fun v wx => v = .int .i64 k ∧ Mod (fun b => g.rv.ownBlock = some b) wc wx ∧ SC Rdr.byte (fun b => g.rv.ownBlock = some b) wx A2 (tkept (ttail g.n ts) g.rest))
        case first =>
          by_cases h0 : k = 0
          · subst h0
            go_wp2
            go_meet
            case rel => 
              refine ⟨rfl, (Mod.refl _ wc).drew, ?_⟩
              rw [tkept, hkk]
              exact read_take HRD.out 0
          · obtain ⟨j, rfl⟩ : ∃ j, k = j + 1 := ⟨k - 1, by omega⟩
            obtain ⟨gb, o, rfl, hgb, hcj⟩ := HRD.out.byte (i := j) (by omega)
            obtain ⟨cs, hcs⟩ := own_block HRV.out hgb
            have hcj' : wc.drew.drew.cell? ⟨gb, o + j, none⟩ = some (.int .u8 (g.rest[j].toNat : Int)) := hcj
            have q2'' : wc.drew.drew.cell? ⟨wr.heap.size + 1, 2, none⟩ = some (.int .u8 (ttail g.n ts).turn.toNat) := q2
            have zz : wc.drew.drew.frozen? ⟨gb, o + j, none⟩ = false := heap_free hcs _
            clear h0 hcs
            go_wp2
            refine wp_text mixed (by kernel_rfl) ?_
            go_wp2_with fail
            refine nf_end (by kernel_rfl) ?_
            go_wp2
            go_meet
            case rel =>
              rw [xor_u8]
              refine ⟨rfl, ((Mod.refl (fun b => g.rv.ownBlock = some b) wc).setCell (p := ⟨gb, o + j, none⟩) (.inl hgb) _).drew.drew, ?_⟩
              rw [tkept, hkk]
              exact read_turned HRD.out (by omega)
        case rest =>
          obtain ⟨rfl, hmx, hSx⟩ := hcut
          obtain ⟨n1, n2, n3⟩ := blocks_spec.1 (HD3.out.nodup (f := g) (by simp))
          have hdg := HD3.out.d_not
          have hdf : d ∉ g.blocks := fun e => hdg (mem_dfoot.2 ⟨g, by simp, e⟩)
          have hdr : g.rv.ownBlock ≠ some d := fun e => hdf (by simp [DF.blocks, e])
          have hds : g.sv.ownBlock ≠ some d := fun e => hdf (by simp [DF.blocks, e])
          have hdb : g.fb ≠ d := fun e => hdf (by simp [DF.blocks, e])
          have hbx := heap_mod HB.out hmx (fun e => n2 e.symm)
          have hsx := own_kept HSV.out hmx (fun k hk e => n3 k hk e)
          have hdx := heap_mod (heap_mod HD3.out.st HMC.out (fun h => h)) hmx (fun e => hdr e)
          obtain ⟨A1, x1, hsv, hx1, _⟩ := own_form hsx
          have f0 : wc.cell? ⟨g.fb, 0, none⟩ = some (.slice A1 g.safe.length x1) := by rw [← hsv]; exact heap_cell hbx 0
          have f1 : wc.cell? ⟨g.fb, 1, none⟩ = some (.slice A2 g.rest.length x2) := by rw [← HER.out]; exact heap_cell hbx 1
          have f2 : wc.cell? ⟨d, 1, none⟩ = some (.int .i64 f) := heap_cell hdx 1
          have y0 := heap_free hbx 0
          have y1 := heap_free hbx 1
          have y2 := heap_free hdx 1
          have hm6 : Mod (· = d) wc (wc.setCell ⟨d, 1, none⟩ (.int .i64 (f + ((g.rest.length : Int) - k)))).drew := ((Mod.refl (· = d) wc).setCell (p := ⟨d, 1, none⟩) (.inl rfl) _).drew
          have hb6 := heap_mod hbx hm6 hdb
          have hs6 := own_kept hsx hm6 (fun k hk e => hds (e ▸ hk))
          rw [hsv] at hs6
          have hne6 : some g.fb ≠ (Value.slice A1 g.safe.length x1).ownBlock := by rw [← hsv]; exact n1
          have hr6 := hSx.kept (by decide) hm6 (fun b hb _ e => hdr (e ▸ hb))
          have hd6 : (wc.setCell ⟨d, 1, none⟩ (.int .i64 (f + ((g.rest.length : Int) - k)))).drew.heap[d]? = some (.cells (({ s with free := f + ((g.rest.length : Int) - k), left := -1, dead := false } : DSt).cells m) 73 (0, 0)) := heap_setCell hdx 1 _
          have HD6 := Lib.hid hd6
          have HM6 := Lib.hid hm6
          have HMX := Lib.hid hmx
          have hkl : k = (tkept (ttail g.n ts) g.rest).length := by rw [tkept_length, hkk]
          have hle : g.safe.length + (tkept (ttail g.n ts) g.rest).length ≤ 140737488355328 := by omega
          have HKL := Lib.hid hkl
          clear hd6 hm6 hmx hsx hdx hbx hSx hkl
          go_wp2
          refine wp_text mixed (by kernel_rfl) ?_
          go_wp2_with fail
          refine nf_end (by kernel_rfl) ?_
          go_wp2_with (at_builtin; refine wp_append_bytes rfl _ _ 39 5 rfl Try.underlying39 info5 0 (.slice A1 g.safe.length x1) g.safe rfl hs6 _ A2 x2 (tkept (ttail g.n ts) g.rest) _ rfl HKL.out hr6 hle (Nat.zero_le _) ?_; intro v' w7 hown' hg7 hb' hn'; obtain ⟨A3, x3, rfl, _⟩ := own_form hown'; rw [List.length_append] at hown' hb'; have hb7 := (hg7.block g.fb (heap_lt hb6) hne6).trans hb6; have t0 := heap_cell hb7 0; have t1 := heap_cell hb7 1; have t2 := heap_free hb7 0; have t3 := heap_free hb7 1)
          have hW : Mod (fun k => g.rv.ownBlock = some k ∨ k = d ∨ g.sv.ownBlock = some k ∨ k = g.fb) w3 ((w7.setCell ⟨g.fb, 0, none⟩ (.slice A3 (g.safe.length + (tkept (ttail g.n ts) g.rest).length) x3)).setCell ⟨g.fb, 1, none⟩ (.slice none 0 0)) :=
            ((((HMC.out.trans HMX.out (fun _ h => h.elim) (fun _ h => .inl (.inl h))).trans HM6.out (fun _ h => .inl h) (fun _ h => .inl (.inr (.inl h)))).grown hg7 (fun k hk => .inl (.inr (.inr (.inl (by rw [hsv]; exact hk)))))).setCell (p := ⟨g.fb, 0, none⟩) (.inl (.inr (.inr (.inr rfl)))) _).setCell (p := ⟨g.fb, 1, none⟩) (.inl (.inr (.inr (.inr rfl)))) _
          have hd7 := (hg7.block d (heap_lt HD6.out) (by rw [← hsv]; exact fun e => hds e.symm)).trans HD6.out
          have hd8 := heap_setCell_other (heap_setCell_other hd7 (p := ⟨g.fb, 0, none⟩) (fun e => hdb e.symm) (.slice A3 (g.safe.length + (tkept (ttail g.n ts) g.rest).length) x3)) (p := ⟨g.fb, 1, none⟩) (fun e => hdb e.symm) (.slice none 0 0)
          have hfb8 := heap_setCell (heap_setCell hb7 0 (.slice A3 (g.safe.length + (tkept (ttail g.n ts) g.rest).length) x3)) 1 (.slice none 0 0)
          have hm8 : Mod (· = g.fb) w7 ((w7.setCell ⟨g.fb, 0, none⟩ (.slice A3 (g.safe.length + (tkept (ttail g.n ts) g.rest).length) x3)).setCell ⟨g.fb, 1, none⟩ (.slice none 0 0)) :=
            ((Mod.refl (· = g.fb) w7).setCell (p := ⟨g.fb, 0, none⟩) (.inl rfl) _).setCell (p := ⟨g.fb, 1, none⟩) (.inl rfl) _
          have hlt6 := heap_lt hb6
          have ho8 := own_kept hown' hm8 (fun q hq e => by
            subst e
            rcases hb' with hb' | hb'
            · exact hne6 (by rw [← hb']; exact hq.symm)
            · rw [hb'] at hq; have := Option.some.inj hq; omega)
          have hs6' : w3.heap.size ≤ (wc.setCell ⟨d, 1, none⟩ (.int .i64 (f + ((g.rest.length : Int) - k)))).drew.heap.size := Nat.le_trans HMC.out.size (Nat.le_trans HMX.out.size HM6.out.size)
          have hfin := HMid.out.step hln HM3.out HD3.out HR3.out hW (by rw [hkk]; exact hd8) hfb8 (by rw [OB, List.length_append]; exact ho8) (hb'.imp (fun e => by rw [hsv]; exact e) fun e => ⟨_, e, hs6'⟩)
          have HFin := Lib.hid hfin
          clear hW hd7 hd8 hfb8 hm8 ho8 hfin hg7 hown'
          go_roundw
          case rel => exact ⟨_, _, _, _, HFin.out⟩
          case measure => rw [HFin.out.rg.left_eq, HMid.out.rg.left_eq]; exact hcl
end Go.Proofs.Ytnfecdjcddidgaa
