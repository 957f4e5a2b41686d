/- The document's drum: Append, where the file is there. -/
import Derived.Test.YtnfecdjcddidgaaRefE
import Derived.Test.YtnfecdjcddidgaaHeldC
namespace Go.Proofs.Ytnfecdjcddidgaa
open Go.RowKit Go.Maps

theorem rapp_done {w2 w4 : World} {r : Nat} {lv : Value} {fs1 fs2 : List RF} {f : RF} {s : DSt} {lb : Nat} {v : Value} {bs : List UInt8} (h : Rf w2 r lv (fs1 ++ f :: fs2) s) (hlb : lv.ownBlock = some lb) (hm4 : Mod Nil w2 w4)
    (hown : w4.ownsRow w2.heap.size 5 1 v (f.safe ++ f.rest ++ bs).length (bcells (f.safe ++ f.rest ++ bs))) (hroom : (bs.length : Int) ≤ s.free) :
    Rf ((w4.setCell ⟨lb, fs1.length * 3 + 1, none⟩ v).setCell ⟨r, 4, none⟩ (.int .i64 (s.ops + 1))) r lv (fs1 ++ ⟨f.n, v, f.safe, f.rest ++ bs⟩ :: fs2) { s with free := s.free - bs.length, ops := s.ops + 1 } ∧
      Mod (fun k => k = r ∨ lv.ownBlock = some k) w2 ((w4.setCell ⟨lb, fs1.length * 3 + 1, none⟩ v).setCell ⟨r, 4, none⟩ (.int .i64 (s.ops + 1))) := by
  have hne : r ≠ lb := fun e => h.ne_l (e ▸ hlb)
  have hR4 := h.kept hm4 (fun k _ hk => hk)
  have hlt : lb < w2.heap.size := own_lt h.ls hlb
  let f' : RF := ⟨f.n, v, f.safe, f.rest ++ bs⟩
  have hm1 : Mod (fun k => lv.ownBlock = some k) w4 (w4.setCell ⟨lb, fs1.length * 3 + 1, none⟩ v) := (Mod.refl (fun k => lv.ownBlock = some k) w4).setCell (p := ⟨lb, fs1.length * 3 + 1, none⟩) (.inl hlb) _
  have hsum : (s.free - bs.length : Int) + psum (rabs (fs1 ++ f' :: fs2)) = s.free + psum (rabs (fs1 ++ f :: fs2)) := by
    rw [rsum_app, rsum_app, rsum_cons, rsum_cons]; simp only [f', List.length_append]; omega
  have hR : Rf (w4.setCell ⟨lb, fs1.length * 3 + 1, none⟩ v) r lv (fs1 ++ f' :: fs2) { s with free := s.free - bs.length } := by
    refine ⟨?_, ?_, ?_, ?_, ?_, ⟨by show 0 ≤ s.free - (bs.length : Int); omega, by show (s.free - bs.length : Int) + _ ≤ _; rw [hsum]; exact h.room.2⟩⟩
    · show _ = some (Obj.cells #[lv, .int .i64 ((s.free - bs.length : Int) + psum (rabs (fs1 ++ f' :: fs2))), .int .i64 s.left, .bool s.dead, .int .i64 s.ops] 46 (0, 0))
      rw [hsum]
      exact heap_setCell_other hR4.st hne _
    · have := own_set (i := fs1.length * 3 + 1) hR4.ls hlb v
      rw [rcells_set (f' := f') (by omega) (by simp [RF.cells, f'])] at this
      simpa using this
    · intro g hg
      rcases List.mem_append.1 hg with hg | hg
      · exact hR4.bytes_kept hm1 (fun k hk => .inr (.inl hk)) (by simp [hg])
      · rcases List.mem_cons.1 hg with rfl | hg
        · show OB _ 5 v (f.safe ++ (f.rest ++ bs))
          rw [← List.append_assoc]
          exact own_base (own_kept hown hm1 fun k hk e => by have := (hown.lt k hk).1; rw [hlb] at e; cases e; omega) fun _ _ => Nat.zero_le _
        · exact hR4.bytes_kept hm1 (fun k hk => .inr (.inl hk)) (by simp [hg])
    · have := h.sorted
      rw [List.pairwise_append, List.pairwise_cons] at this ⊢
      refine ⟨this.1, this.2.1, fun a ha b hb => ?_⟩
      rcases List.mem_cons.1 hb with rfl | hb
      · exact this.2.2 a ha f (by simp)
      · exact this.2.2 a ha b (by simp [hb])
    · intro g hg
      rcases List.mem_append.1 hg with hg | hg
      · exact h.rng g (by simp [hg])
      · rcases List.mem_cons.1 hg with rfl | hg
        · exact h.rng f (by simp)
        · exact h.rng g (by simp [hg])
  exact ⟨hR.bumped, ((hm4.trans hm1 (fun _ h => h.elim) (fun k hk => .inl (.inr hk))).setCell (p := ⟨r, 4, none⟩) (.inl (.inl rfl)) _)⟩

set_option maxRecDepth 100000 in
set_option maxHeartbeats 2000000 in
theorem rapp_hit {w : World} {r : Nat} {lv : Value} {fs1 fs2 : List RF} {f : RF} {s : DSt} (h : Rf w r lv (fs1 ++ f :: fs2) s) (l1 : ∀ g ∈ fs1, g.n < f.n) (l2 : ∀ g ∈ fs2, f.n < g.n) (hf : Sane s) (hc : gcode f.n s = 0) {F : Nat → Prop} {Ab : Option Addr} {cb : Nat} {bs : List UInt8}
    (hF : ∀ b, F b → b < w.heap.size ∧ b ≠ r) (hS : SC Rdr.byte F w Ab bs) (hroom : (bs.length : Int) ≤ s.free) :
    Calls Try.prog 15 #[.pointer (some ⟨r, 0, none⟩), .int .i64 f.n, .slice Ab bs.length cb] w (RRet r lv (fs1 ++ f :: fs2) w (bump (appF f.n bs (rabs (fs1 ++ f :: fs2)) (gst f.n s)))) := by
  have hbeg := begin_any h f.n hf.l
  have hops := hf.o
  rw [← gst_ops f.n s] at hops
  obtain ⟨ho1, ho2⟩ := hops
  have hrm := h.room
  have hpn := psum_nonneg (rabs (fs1 ++ f :: fs2))
  rw [hc] at hbeg
  clear h hf hc
  go_enter Try.func15, Try.ntmps15
  go_wp2_with fail
  refine hbeg.mono ?_
  rintro e w1 ⟨rfl, hR1, hm1⟩
  have hfree := rfree_any hR1
  rw [gst_free] at hfree
  have hfind := find_any hR1 f.n l1 (fun g hg => (List.mem_cons.1 hg).elim (fun e => e ▸ Int.le_refl _) fun hg => Int.le_of_lt (l2 g hg))
  have hh : hdIs f.n (f :: fs2) = true := by simp [hdIs]
  rw [hh] at hfind
  have hS1 := hS.frame (w' := w1) (by decide) fun b hb hlt => hm1.block b hlt (hF b hb).2
  have H1 := Lib.hid hR1
  have HM1 := Lib.hid hm1
  have HS1 := Lib.hid hS1
  clear hR1 hm1 hbeg hh hS hS1
  go_wp2_with fail
  refine hfree.mono ?_
  rintro e w1' ⟨rfl, rfl⟩
  clear hfree
  go_wp2_with fail
  refine hfind.mono ?_
  rintro e wX ⟨rfl, hm2⟩
  have HX := Lib.hid (H1.out.kept hm2 (fun k _ hk => hk))
  have HMM := Lib.hid (HM1.out.trans hm2 (M := (· = r)) (fun _ h => .inl h) (fun _ h => h.elim))
  have hSX := HS1.out.kept (by decide) hm2 (fun _ _ _ h => h)
  clear hfind hm2
  obtain ⟨lb, c, hlv, hcl, k0, k1, k2⟩ := HX.out.at_ (k := fs1.length) (by simp)
  rw [get_mid] at k1
  obtain ⟨A1, x1, hbv, hx1, hSC⟩ := HX.out.bytes (f := f) (by simp)
  have hcntX := HX.out.count
  have hfit := psum_mem (L := rabs (fs1 ++ f :: fs2)) (f := f.abs) (by simp [rabs])
  have hroomX := HX.out.room
  rw [gst_free] at hroomX
  have hlb : lv.ownBlock = some lb := by rw [hlv]; rfl
  have hne : r ≠ lb := fun e => HX.out.ne_l (e ▸ hlb)
  have hrlt : r < wX.heap.size := heap_lt HX.out.st
  have hlblt : lb < wX.heap.size := own_lt HX.out.ls hlb
  have c0 : wX.cell? ⟨r, 0, none⟩ = some lv := heap_cell HX.out.st 0
  have c4 : wX.cell? ⟨r, 4, none⟩ = some (.int .i64 (gst f.n s).ops) := heap_cell HX.out.st 4
  have z4 : wX.frozen? ⟨r, 4, none⟩ = false := heap_free HX.out.st 4
  have zl : wX.frozen? ⟨lb, fs1.length * 3 + 1, none⟩ = false := own_frozen HX.out.ls hlb
  rw [hlv] at c0
  rw [hbv, List.length_append] at k1
  have hlen : (fs1 ++ f :: fs2).length = fs1.length + (fs2.length + 1) := by simp
  rw [hlen] at c0 hcntX hcl
  have hbl : (f.safe ++ f.rest).length + bs.length ≤ 140737488355328 := by
    simp only [PF.sz, RF.abs] at hfit; rw [List.length_append]; omega
  have hbl0 : ([] : List UInt8).length + (f.safe ++ f.rest).length ≤ 140737488355328 := by simp only [List.length_nil]; omega
  have hmA : Mod Nil wX (wX.alloc (.cells #[] 5 (0, 0))).drew := ((Mod.refl Nil wX).alloc _).drew
  have hown0 : (wX.alloc (.cells #[] 5 (0, 0))).drew.ownsRow wX.heap.size 5 1 (.slice (some ⟨wX.heap.size, 0, none⟩) 0 0) ([] : List UInt8).length (bcells []) :=
    ⟨rfl, .inr ⟨wX.heap.size, 0, #[], rfl, Nat.le_refl _, heap_new wX (.cells #[] 5 (0, 0)), Nat.le_refl _, by decide, rfl, rfl⟩⟩
  have hszA := hmA.size
  have hl2 : (f.safe ++ f.rest ++ bs).length = f.safe.length + (f.rest.length + bs.length) := by rw [List.length_append, List.length_append]; omega
  have hR1 := hSC.kept (by decide) hmA (fun _ _ _ h => h)
  have HMA := Lib.hid hmA
  have HSB := Lib.hid hSX
  have HFit := Lib.hid hroomX
  clear hfit hSC hmA hSX hroomX
  go_wp2
  refine wp_held [0, 0, 0, 3, 0, 2, 0, 0, 0, 3, 0, 0, 0, 3, 2, 0, 2, 0, 0, 2] [6, 9, 2] [⟨3, 44, .tmp 53, ⟨r, 0, none⟩, .slice (some ⟨lb, 0, none⟩) (fs1.length + (fs2.length + 1)) c⟩, ⟨9, 44, .tmp 59, ⟨r, 0, none⟩, .slice (some ⟨lb, 0, none⟩) (fs1.length + (fs2.length + 1)) c⟩, ⟨13, 39, .tmp 63, ⟨lb, fs1.length * 3 + 1, none⟩, .slice A1 (f.safe.length + f.rest.length) x1⟩] mixed (by kernel_rfl) (JH.cons c0 (JH.cons c0 (JH.one k1))) ?_
  simp only [wpCut, List.take_succ_cons, List.take_zero, List.drop_succ_cons, List.drop_zero]
  go_wp2_with fail
  have cA := (World.cell?_of_block (HMA.out.block r hrlt (fun h => h)) (a := ⟨r, 0, none⟩)).trans c0
  have kA := (World.cell?_of_block (HMA.out.block lb hlblt (fun h => h)) (a := ⟨lb, fs1.length * 3 + 1, none⟩)).trans k1
  refine nf_cut (JH.cons cA (JH.cons cA (JH.one kA))) ?_
  go_wp2_with (at_builtin; refine wp_append_bytes rfl _ _ 39 5 rfl Try.underlying39 info5 wX.heap.size (.slice (some ⟨wX.heap.size, 0, none⟩) 0 0) [] rfl hown0 _ A1 x1 (f.safe ++ f.rest) _ rfl (by first | rfl | (rw [List.length_append]; done) | (rw [List.length_append]; rfl)) hR1 hbl0 hszA ?_; intro v1 w3 hown1 hg1 hb1 hn1; have hm3 := HMA.out.grown hg1 (fun k hk => .inr (by have := Option.some.inj hk; simp only at this; omega)); have c0' := (World.cell?_of_block (hm3.block r hrlt (fun h => h)) (a := ⟨r, 0, none⟩)).trans c0; have k1' := (World.cell?_of_block (hm3.block lb hlblt (fun h => h)) (a := ⟨lb, fs1.length * 3 + 1, none⟩)).trans k1; have hsz3 := hm3.size; rw [List.nil_append] at hown1; have hR2 := HSB.out.kept (by decide) hm3 (fun _ _ _ h => h); have HM3 := Lib.hid hm3; clear hm3)
  refine nf_cut (JH.cons c0' (JH.cons c0' (JH.one k1'))) ?_
  go_wp2_with (at_builtin; refine wp_append_bytes rfl _ _ 39 5 rfl Try.underlying39 info5 wX.heap.size v1 (f.safe ++ f.rest) rfl hown1 _ Ab cb bs _ rfl rfl hR2 hbl hsz3 ?_; intro v2 w4 hown2 hg2 hb2 hn2; rw [hl2] at hown2; obtain ⟨A4, x4, rfl, _⟩ := own_form hown2; have hm4 := HM3.out.grown hg2 (fun k hk => .inr (hown1.lt k hk).1); have zl' := (World.frozen?_of_block (hm4.block lb hlblt (fun h => h)) (a := ⟨lb, fs1.length * 3 + 1, none⟩)).trans zl; have z4' := (World.frozen?_of_block (hm4.block r hrlt (fun h => h)) (a := ⟨r, 4, none⟩)).trans z4; have c4' := (World.cell?_of_block (hm4.block r hrlt (fun h => h)) (a := ⟨r, 4, none⟩)).trans c4; have c0'' := (World.cell?_of_block (hm4.block r hrlt (fun h => h)) (a := ⟨r, 0, none⟩)).trans c0; have k1'' := (World.cell?_of_block (hm4.block lb hlblt (fun h => h)) (a := ⟨lb, fs1.length * 3 + 1, none⟩)).trans k1; have HM4 := Lib.hid hm4; have HO2 := Lib.hid hown2; clear hm4 hown2)
  refine nf_cut (JH.cons c0'' (JH.cons c0'' (JH.one k1''))) ?_
  have c4'' : ∀ v, (w4.setCell ⟨lb, fs1.length * 3 + 1, none⟩ v).cell? ⟨r, 4, none⟩ = some (.int .i64 (gst f.n s).ops) := fun v => (World.cell?_setCell_other _ _ _ _ (fun e => hne (congrArg Addr.block e).symm)).trans c4'
  go_wp2_with fail
  refine nf_last (by kernel_rfl) ⟨rfl, rfl, rfl, trivial⟩ ?_
  go_wp2_with fail
  go_ret
  obtain ⟨hRf, hMf⟩ := rapp_done HX.out hlb HM4.out (by rw [hl2]; exact HO2.out) (by rw [gst_free]; omega)
  have e1 : bump (appF f.n bs (rabs (fs1 ++ f :: fs2)) (gst f.n s)) = ⟨0, rabs (fs1 ++ ⟨f.n, .slice A4 (f.safe.length + (f.rest.length + bs.length)) x4, f.safe, f.rest ++ bs⟩ :: fs2), { gst f.n s with free := (gst f.n s).free - bs.length, ops := (gst f.n s).ops + 1 }⟩ := by
    rw [appF, if_neg (by rw [gst_free]; omega)]
    have : pins f.n bs (rabs (fs1 ++ f :: fs2)) = rabs (fs1 ++ ⟨f.n, .slice A4 (f.safe.length + (f.rest.length + bs.length)) x4, f.safe, f.rest ++ bs⟩ :: fs2) := by
      rw [rabs_app, rabs_cons, rabs_app, rabs_cons]; exact pins_hit (f := f.abs) (rabs_lt l1)
    simp only [this, bump, if_true]
  rw [e1]
  refine ⟨rfl, lv, _, hRf, rfl, HMM.out.trans hMf (M := fun b => b ∈ Rf.foot r lv (fs1 ++ f :: fs2)) (fun k hk => .inl (hk ▸ foot_r)) (fun k hk => .inl (hk.elim (fun e => e ▸ foot_r) fun e => Rf.foot_spec.2 (.inr (.inl e)))), fun b hb => ?_⟩
  rcases Rf.foot_spec.1 hb with e | e | ⟨g, hg, e⟩
  · exact .inl (Rf.foot_spec.2 (.inl e))
  · exact .inl (Rf.foot_spec.2 (.inr (.inl e)))
  · rcases List.mem_append.1 hg with hg | hg
    · exact .inl (Rf.foot_spec.2 (.inr (.inr ⟨g, by simp [hg], e⟩)))
    · rcases List.mem_cons.1 hg with rfl | hg
      · exact .inr (Nat.le_trans HMM.out.size (HO2.out.lt b e).1)
      · exact .inl (Rf.foot_spec.2 (.inr (.inr ⟨g, by simp [hg], e⟩)))
end Go.Proofs.Ytnfecdjcddidgaa
