/- The document's drum: Crash. -/
import Derived.Test.YtnfecdjcddidgaaRefH
namespace Go.Proofs.Ytnfecdjcddidgaa
open Go.RowKit Go.Maps

theorem tkeep_int (t : Tail) (rest : List UInt8) : ((tkeep t rest : Nat) : Int) = max 0 (min t.keep rest.length) := by unfold tkeep; omega
theorem crash_sz (ts : List Tail) (f : PF) : (f.crash ts).sz ≤ f.sz := by
  have := tkeep_le (ttail f.n ts) f.rest
  simp only [PF.sz, PF.crash, List.length_append, tkept_length, List.length_nil]
  omega
theorem psum_crash (ts : List Tail) : ∀ L : List PF, psum (L.map (PF.crash ts)) ≤ psum L
  | [] => Int.le_refl _
  | f :: r => by
    have h1 := psum_crash ts r
    have h2 := crash_sz ts f
    simp only [List.map_cons, psum]
    omega

/-- The first tail of a file among the last ones. -/
def jtail (n : Int) (ts : List Tail) (j : Nat) : Tail := ttail n (ts.drop j)
theorem jtail_zero (n : Int) (ts : List Tail) : jtail n ts 0 = ttail n ts := rfl
theorem jtail_end (n : Int) (ts : List Tail) : jtail n ts ts.length = ⟨0, 0, 0⟩ := by simp [jtail, ttail]
theorem jtail_hit {n : Int} {ts : List Tail} {j : Nat} (hj : j < ts.length) (h : ts[j].file = n) : jtail n ts j = ts[j] := by
  rw [jtail, List.drop_eq_getElem_cons hj, ttail, List.find?_cons]
  simp [h]
theorem jtail_miss {n : Int} {ts : List Tail} {j : Nat} (hj : j < ts.length) (h : ts[j].file ≠ n) : jtail n ts j = jtail n ts (j + 1) := by
  rw [jtail, List.drop_eq_getElem_cons hj, ttail, List.find?_cons]
  simp [h, jtail, ttail]

theorem tkeep_none (rest : List UInt8) : tkeep ⟨0, 0, 0⟩ rest = 0 := by unfold tkeep; simp; omega
theorem bcells_set (xs : List UInt8) (i : Nat) (b : UInt8) : (bcells xs).set i (.int .u8 (b.toNat : Int)) = bcells (xs.set i b) := by simp [bcells, List.map_set]
theorem set_turned {safe rest : List UInt8} {k : Nat} {u : UInt8} (hk : k + 1 ≤ rest.length) : (safe ++ rest.take (k + 1)).set (safe.length + k) (rest[k] ^^^ u) = safe ++ turned u (rest.take (k + 1)) := by
  rw [List.set_append_right _ _ (by omega)]
  congr 1
  rw [show safe.length + k - safe.length = k by omega, turned]
  apply List.ext_getElem
  · simp
  · intro i h1 h2
    simp only [List.length_set, List.length_take] at h1
    have hl : (rest.take (k + 1)).length - 1 = k := by rw [List.length_take]; omega
    simp only [List.getElem_set, List.getElem_modify, hl, List.getElem_take]
    split <;> rename_i h
    · subst h; rfl
    · rfl

/-- The world on the way through the files. -/
structure RMid (w1 : World) (r : Nat) (lv : Value) (fs : List RF) (s : DSt) (ts : List Tail) (wr : World) (v : Value) (gs : List RF) : Prop where
  own : wr.ownsRow w1.heap.size 83 3 v gs.length (rcells gs)
  fl : ∀ g ∈ gs, wr.ownsRow w1.heap.size 5 1 g.bv (g.safe ++ g.rest).length (bcells (g.safe ++ g.rest))
  abs : rabs gs = ((rabs fs).take gs.length).map (PF.crash ts)
  mod : Mod Nil w1 wr

theorem RMid.step {w1 wo W w7 : World} {r : Nat} {lv v v2 v' : Value} {fs gs : List RF} {s : DSt} {ts : List Tail} {n : Int} {safe rest : List UInt8} (h : RMid w1 r lv fs s ts wo v gs) (hW : Mod Nil wo W) (hab : (rabs fs)[gs.length]? = some ⟨n, safe, rest⟩)
    (hv' : W.ownsRow w1.heap.size 5 1 v' (safe ++ tkept (ttail n ts) rest).length (bcells (safe ++ tkept (ttail n ts) rest))) (hg : W.grownBy w7 v.ownBlock)
    (hown : w7.ownsRow w1.heap.size 83 3 v2 (gs.length + 1) (rcells gs ++ [.int .i64 n, v', .int .i64 (safe ++ tkept (ttail n ts) rest).length])) :
    RMid w1 r lv fs s ts w7 v2 (gs ++ [⟨n, v', safe ++ tkept (ttail n ts) rest, []⟩]) := by
  have hv := own_kept h.own hW (fun _ _ h => h)
  have hm7 : Mod (fun k => v.ownBlock = some k) W w7 := (Mod.refl _ W).grown hg (fun k hk => .inl hk)
  have hne : ∀ {b : Value} {xs : List UInt8}, W.ownsRow w1.heap.size 5 1 b xs.length (bcells xs) → ∀ k, b.ownBlock = some k → ¬ (v.ownBlock = some k) := fun hb k hk e => by
    obtain ⟨cs, hcs⟩ := own_block hv e
    exact ne_own hcs hb (by decide) hk.symm
  refine ⟨?_, fun g hg => ?_, ?_, (h.mod.then hW).grown hg (fun k hk => .inr (hv.lt k hk).1)⟩
  · rw [List.length_append, rcells_app]
    exact hown
  · rcases List.mem_append.1 hg with hg | hg
    · have := own_kept (h.fl g hg) hW (fun _ _ h => h)
      exact own_kept this hm7 (hne this)
    · cases List.mem_singleton.1 hg
      rw [List.append_nil]
      exact own_kept hv' hm7 (hne hv')
  · rw [rabs_app, List.length_append, h.abs]
    show _ = List.map _ (List.take (gs.length + 1) _)
    rw [List.take_add_one, hab]
    simp [rabs, RF.abs, PF.crash]

theorem rcrash_done {w w1 wr : World} {r : Nat} {lv v : Value} {fs gs : List RF} {s : DSt} {ts : List Tail} (h : Rf w1 r lv fs { s with left := -1, dead := false }) (hm1 : Mod (· = r) w w1) (hk : gs.length = fs.length) (hm : RMid w1 r lv fs s ts wr v gs) :
    ∃ lv' fs', Rf (wr.setCell ⟨r, 0, none⟩ v) r lv' fs' (crashF ts (rabs fs) s).2 ∧ rabs fs' = (crashF ts (rabs fs) s).1 ∧ Mod (· = r) w (wr.setCell ⟨r, 0, none⟩ v) ∧ ∀ b ∈ Rf.foot r lv' fs', b = r ∨ w.heap.size ≤ b := by
  have habs : rabs gs = (rabs fs).map (PF.crash ts) := by
    rw [hm.abs, List.take_of_length_le (by rw [rabs, List.length_map]; omega)]
  have hns : gs.map RF.n = fs.map RF.n := by
    have := congrArg (List.map PF.n) habs
    simpa [rabs, List.map_map, Function.comp_def, RF.abs, PF.crash] using this
  have hrl := heap_lt h.st
  have hmr : Mod (· = r) wr (wr.setCell ⟨r, 0, none⟩ v) := (Mod.refl (· = r) wr).setCell (p := ⟨r, 0, none⟩) (.inl rfl) _
  have hps := psum_crash ts (rabs fs)
  have hpn := psum_nonneg ((rabs fs).map (PF.crash ts))
  have hroom := h.room
  dsimp only at hroom
  refine ⟨v, gs, ⟨?_, ?_, ?_, ?_, ?_, ?_⟩, habs, (hm1.trans hm.mod (M := (· = r)) (fun _ h => .inl h) (fun _ h => h.elim)).then hmr, fun b hb => ?_⟩
  · show _ = some (Obj.cells #[v, .int .i64 ((s.free + psum (rabs fs) - psum ((rabs fs).map (PF.crash ts))) + psum (rabs gs)), .int .i64 (-1), .bool false, .int .i64 s.ops] 46 (0, 0))
    rw [habs, show (s.free + psum (rabs fs) - psum ((rabs fs).map (PF.crash ts))) + psum ((rabs fs).map (PF.crash ts)) = s.free + psum (rabs fs) by omega]
    exact heap_setCell (heap_mod h.st hm.mod (fun h => h)) 0 v
  · exact own_base (own_kept hm.own hmr fun k hk e => by have := (hm.own.lt k hk).1; omega) fun _ _ => Nat.zero_le _
  · intro g hg
    exact own_base (own_kept (hm.fl g hg) hmr fun k hk e => by have := ((hm.fl g hg).lt k hk).1; omega) fun _ _ => Nat.zero_le _
  · have := h.sorted
    rw [← List.pairwise_map (f := RF.n) (R := fun a b : Int => a < b)] at this ⊢
    rw [hns]; exact this
  · intro g hg
    have : g.n ∈ fs.map RF.n := by rw [← hns]; exact List.mem_map.2 ⟨g, hg, rfl⟩
    obtain ⟨f, hf, e⟩ := List.mem_map.1 this
    rw [← e]; exact h.rng f hf
  · show 0 ≤ s.free + psum (rabs fs) - psum ((rabs fs).map (PF.crash ts)) ∧ s.free + psum (rabs fs) - psum ((rabs fs).map (PF.crash ts)) + psum (rabs gs) ≤ 4194304
    rw [habs]; omega
  · rcases Rf.foot_spec.1 hb with e | e | ⟨g, hg, e⟩
    · exact .inl e
    · exact .inr (Nat.le_trans hm1.size (hm.own.lt b e).1)
    · exact .inr (Nat.le_trans hm1.size ((hm.fl g hg).lt b e).1)

set_option maxRecDepth 100000 in
set_option maxHeartbeats 4000000 in
theorem rcrash_any {w : World} {r : Nat} {lv : Value} {fs : List RF} {s : DSt} (h : Rf w r lv fs s) {F : Nat → Prop} {At : Option Addr} {ct : Nat} {ts : List Tail}
    (hF : ∀ b, F b → b < w.heap.size ∧ b ≠ r) (hS : SC Rtail F w At ts) (hl : ts.length ≤ 140737488351232) :
    Calls Try.prog 23 #[.pointer (some ⟨r, 0, none⟩), .slice At ts.length ct] w fun e w' => e = .returned (.tuple #[]) ∧ ∃ lv' fs', Rf w' r lv' fs' (crashF ts (rabs fs) s).2 ∧ rabs fs' = (crashF ts (rabs fs) s).1 ∧ Mod (· = r) w w' ∧ ∀ b ∈ Rf.foot r lv' fs', b = r ∨ w.heap.size ≤ b := by
  have c3 : w.cell? ⟨r, 3, none⟩ = some (.bool s.dead) := heap_cell h.st 3
  have z3 : w.frozen? ⟨r, 3, none⟩ = false := heap_free h.st 3
  have c2 : w.cell? ⟨r, 2, none⟩ = some (.int .i64 s.left) := heap_cell h.st 2
  have z2 : w.frozen? ⟨r, 2, none⟩ = false := heap_free h.st 2
  have c0 : w.cell? ⟨r, 0, none⟩ = some lv := heap_cell h.st 0
  have hcnt := h.count
  obtain ⟨A, c, hlv, hcl, _⟩ := own_form h.ls
  have hm1 : Mod (· = r) w ((w.setCell ⟨r, 3, none⟩ (.bool false)).setCell ⟨r, 2, none⟩ (.int .i64 (-1))) := ((Mod.refl (· = r) w).setCell (p := ⟨r, 3, none⟩) (.inl rfl) _).setCell (p := ⟨r, 2, none⟩) (.inl rfl) _
  have hR1 := h.set (s' := { s with left := -1, dead := false }) hm1 rfl (heap_setCell (heap_setCell h.st 3 _) 2 _)
  have hS1 := hS.frame (w' := ((w.setCell ⟨r, 3, none⟩ (.bool false)).setCell ⟨r, 2, none⟩ (.int .i64 (-1)))) (by decide) fun b hb hlt => hm1.block b hlt (hF b hb).2
  generalize hw1 : ((w.setCell ⟨r, 3, none⟩ (.bool false)).setCell ⟨r, 2, none⟩ (.int .i64 (-1))) = w1 at hm1 hR1 hS1
  have d0 : w1.cell? ⟨r, 0, none⟩ = some (.slice A fs.length c) := by rw [← hlv]; exact heap_cell hR1.st 0
  have dz : w1.frozen? ⟨r, 0, none⟩ = false := heap_free hR1.st 0
  have hrlt : r < w1.heap.size := heap_lt hR1.st
  have hF1 : ∀ b, F b → b < w1.heap.size := fun b hb => Nat.lt_of_lt_of_le (hF b hb).1 hm1.size
  have H := Lib.hid hR1
  have HM1 := Lib.hid hm1
  have HS := Lib.hid hS1
  have HLV := Lib.hid hlv
  have HW := Lib.hid hw1
  clear h hS hm1 hR1 hS1 hF hlv
  go_enter Try.func23, Try.ntmps23
  go_wp2
  try rw [hw1]
  clear hw1 c0 c2 c3 z2 z3
  go_loopw [4, 5] (fun v i wr => ∃ gs, gs.length ≤ fs.length ∧ i = .int .i64 gs.length ∧ RMid w1 r lv fs s ts wr v gs) (fun _ i _ => fs.length - (intOf i).toNat)
  case atStart => exact ⟨[], Nat.zero_le _, rfl, World.ownsRow_nil _ _ _ _, by simp, rfl, Mod.refl _ _⟩
  case round =>
    obtain ⟨gs, hk, rfl, hmid⟩ := hrel
    have e0 : wr.cell? ⟨r, 0, none⟩ = some (.slice A fs.length c) := by rw [World.cell?_of_block (hmid.mod.block _ hrlt (fun h => h))]; exact d0
    have ez : wr.frozen? ⟨r, 0, none⟩ = false := by rw [World.frozen?_of_block (hmid.mod.block _ hrlt (fun h => h))]; exact dz
    have HMid := Lib.hid hmid
    by_cases hlt : gs.length < fs.length
    · obtain ⟨lb, c', hlv', hc', k0, k1, k2⟩ := H.out.at_ hlt
      have hA : A = some ⟨lb, 0, none⟩ := by rw [HLV.out] at hlv'; cases hlv'; rfl
      subst hA
      have hf : fs[gs.length] ∈ fs := by simp
      obtain ⟨A1, x1, hbv, hx1, hSC⟩ := H.out.bytes hf
      have hfit := psum_mem (L := rabs fs) (f := fs[gs.length].abs) (List.mem_map.2 ⟨_, hf, rfl⟩)
      have hroom := H.out.room
      have k0' : wr.cell? ⟨lb, gs.length * 3, none⟩ = some (.int .i64 fs[gs.length].n) := by rw [World.cell?_of_block (hmid.mod.block _ (World.block_lt_of_cell? w1 _ k0) (fun h => h))]; exact k0
      have k1' : wr.cell? ⟨lb, gs.length * 3 + 1, none⟩ = some (.slice A1 (fs[gs.length].safe.length + fs[gs.length].rest.length) x1) := by rw [World.cell?_of_block (hmid.mod.block _ (World.block_lt_of_cell? w1 _ k1) (fun h => h))]; rw [k1, hbv, List.length_append]
      have k2' : wr.cell? ⟨lb, gs.length * 3 + 2, none⟩ = some (.int .i64 fs[gs.length].safe.length) := by rw [World.cell?_of_block (hmid.mod.block _ (World.block_lt_of_cell? w1 _ k2) (fun h => h))]; exact k2
      have hSC1 := (hSC.kept (by decide) hmid.mod (fun _ _ _ h => h)).mono (F' := fun b => b < w1.heap.size) (by decide) fun b hb _ => own_lt (H.out.fl _ hf) hb
      have hS2 := HS.out.kept (by decide) hmid.mod (fun _ _ _ h => h)
      have hlen : fs[gs.length].safe.length + fs[gs.length].rest.length ≤ 4194304 := by
        simp only [PF.sz, RF.abs] at hfit; dsimp only at hroom; omega
      rw [List.length_append] at hx1
      have hab : (rabs fs)[gs.length]? = some fs[gs.length].abs := by simp [rabs, hlt]
      generalize hfe : fs[gs.length] = f at *
      obtain ⟨n, bv, safe, rest⟩ := f
      dsimp only at *
      have HSC := Lib.hid hSC1
      have HS2 := Lib.hid hS2
      have HAB := Lib.hid hab
      clear hlv' k0 k1 k2 hSC hSC1 hS2 hfit hroom hmid hbv hab hfe hf
      have hmT : Mod Nil wr (wr.alloc (.cells #[.int .i64 n, .slice A1 (safe.length + rest.length) x1, .int .i64 safe.length] 83 (0, 0))) := (Mod.refl Nil wr).alloc _
      have hT := heap_new wr (.cells #[.int .i64 n, .slice A1 (safe.length + rest.length) x1, .int .i64 safe.length] 83 (0, 0))
      have HMT := Lib.hid hmT
      have HT := Lib.hid hT
      clear hmT hT
      go_wp2_with fail
      go_loopw [7, 8, 9] (fun k t i w2 => ∃ j : Nat, j ≤ ts.length ∧ i = .int .i64 ((j : Int) - 1) ∧ k = .int .i64 ((safe.length : Int) + (tkeep (jtail n ts j) rest : Nat)) ∧ t = .int .u8 ((jtail n ts j).turn.toNat : Int) ∧ Mod Nil (wr.alloc (.cells #[.int .i64 n, .slice A1 (safe.length + rest.length) x1, .int .i64 safe.length] 83 (0, 0))) w2) (fun _ _ i _ => (intOf i + 1).toNat)
      case atStart => exact ⟨ts.length, Nat.le_refl _, rfl, by rw [jtail_end, tkeep_none]; simp, by rw [jtail_end]; rfl, Mod.refl _ _⟩
      case round =>
        obtain ⟨j, hj, rfl, rfl, rfl, hm2⟩ := hrel
        have hT2 := heap_mod HT.out hm2 (fun h => h)
        have t0 := heap_cell hT2 0
        have t1 := heap_cell hT2 1
        have t2 := heap_cell hT2 2
        have hk1 := tkeep_le (jtail n ts j) rest
        cases j with
        | succ m =>
          have hmAll := (HMid.out.mod.then HMT.out).then hm2
          obtain ⟨b', o, cs, rfl, hFb, ⟨rfl, hw1, hw2⟩, hcc⟩ := HS.out.at_ (i := m) (by omega)
          have q : ∀ x, wr.cell? ⟨b', x, none⟩ = w1.cell? ⟨b', x, none⟩ := fun x => World.cell?_of_block (hmAll.block b' (hF1 b' hFb) (fun h => h))
          have m0 : wr.cell? ⟨b', o + m * 3, none⟩ = some (.int .i64 ts[m].file) := (q _).trans (hcc 0 _ rfl)
          have m1 : wr.cell? ⟨b', o + m * 3 + 1, none⟩ = some (.int .i64 ts[m].keep) := (q _).trans (hcc 1 _ rfl)
          have m2 : wr.cell? ⟨b', o + m * 3 + 2, none⟩ = some (.int .u8 ts[m].turn.toNat) := (q _).trans (hcc 2 _ rfl)
          have HM2 := Lib.hid hm2
          have hmlt : m < ts.length := by omega
          have ej : ((m + 1 : Nat) : Int) - 1 = m := by omega
          simp only [ej]
          clear hm2 hmAll q hcc hT2
          by_cases heq : ts[m].file = n
          · have hjt := jtail_hit hmlt heq
            have hki := tkeep_int ts[m] rest
            have HJ := Lib.hid hjt
            have HK := Lib.hid hki
            have hkl := tkeep_le ts[m] rest
            rw [heq] at m0
            clear hjt hki heq ej
            go_wp2
            refine wp_text mixed (by kernel_rfl) ?_
            go_wp2_with fail
            refine nf_end (by kernel_rfl) ?_
            go_wp2
            refine wp_text mixed (by kernel_rfl) ?_
            go_wp2_with fail
            refine nf_end (by kernel_rfl) ?_
            go_wp2
            go_roundw
            case rel =>
              refine ⟨m, by omega, rfl, ?_, by rw [HJ.out], HM2.out.drew.drew⟩
              rw [HJ.out, HK.out]
              have e : (safe.length + rest.length - safe.length : Int) = rest.length := by omega
              rw [e]
            case measure => simp only [intOf]; omega
          · have hjt := jtail_miss hmlt heq
            have HJ := Lib.hid hjt
            have heq' : (ts[m].file == n) = false := by simpa using heq
            clear hjt ej heq
            go_wp2
            refine wp_text mixed (by kernel_rfl) ?_
            go_wp2_with fail
            refine nf_end (by kernel_rfl) ?_
            go_wp2
            go_roundw
            case rel => exact ⟨m, by omega, rfl, by rw [HJ.out], by rw [HJ.out], HM2.out.drew⟩
            case measure => simp only [intOf]; omega
        | zero =>
          simp only [Int.natCast_zero, Int.zero_sub]
          rw [jtail_zero] at hk1 ⊢
          have HM2 := Lib.hid hm2
          have hTlt : _ < wr.heap.size := heap_lt hT2
          have hmB : Mod Nil wr (wr.alloc (.cells #[] 5 (0, 0))) := (Mod.refl Nil wr).alloc _
          have tb := heap_mod hT2 hmB (fun h => h)
          have tb1 := heap_cell tb 1
          have tb2 := heap_cell tb 2
          have hB := heap_new wr (.cells #[] 5 (0, 0))
          have szB : w1.heap.size ≤ wr.heap.size := Nat.le_trans HMid.out.mod.size (Nat.le_trans HMT.out.size hm2.size)
          have ownB : (wr.alloc (.cells #[] 5 (0, 0))).ownsRow w1.heap.size 5 1 (.slice (some ⟨wr.heap.size, 0, none⟩) 0 0) ([] : List UInt8).length (bcells []) :=
            ⟨rfl, .inr ⟨wr.heap.size, 0, #[], rfl, szB, hB, Nat.le_refl _, by decide, rfl, rfl⟩⟩
          have szB' : w1.heap.size ≤ (wr.alloc (.cells #[] 5 (0, 0))).heap.size := Nat.le_trans szB hmB.size
          have rdB := read_take (HSC.out.kept (by decide) ((HMT.out.then hm2).then hmB) (fun _ _ _ h => h)) (safe.length + tkeep (ttail n ts) rest)
          have lnB : ([] : List UInt8).length + ((safe ++ rest).take (safe.length + tkeep (ttail n ts) rest)).length ≤ 140737488355328 := by rw [List.length_take, List.length_append, List.length_nil]; omega
          have ln2 : ((safe ++ rest).take (safe.length + tkeep (ttail n ts) rest)).length = safe.length + tkeep (ttail n ts) rest := by rw [List.length_take, List.length_append]; omega
          have HLN := Lib.hid ln2
          have htk : (safe ++ rest).take (safe.length + tkeep (ttail n ts) rest) = safe ++ rest.take (tkeep (ttail n ts) rest) := by rw [List.take_append]; simp [List.take_of_length_le]
          have HTK := Lib.hid htk
          clear hm2 hmB ln2 htk
          generalize hkk : tkeep (ttail n ts) rest = k at *
          have HKK := Lib.hid hkk
          go_upto_if 80 with (at_builtin; refine wp_append_bytes rfl _ _ 39 5 rfl Try.underlying39 info5 w1.heap.size (.slice (some ⟨wr.heap.size, 0, none⟩) 0 0) [] rfl ownB _ A1 x1 ((safe ++ rest).take (safe.length + k)) _ rfl (by rw [HLN.out]) rdB lnB szB' ?_; intro v3 w3 hown3 hg3 hb3 hn3; rw [List.nil_append, HTK.out] at hown3; have hW3 : Mod Nil wr w3 := ((Mod.refl Nil wr).alloc _).grown hg3 (fun q hq => .inr (by have := Option.some.inj hq; simp only at this; omega)); have ln3 : (safe ++ rest.take k).length = safe.length + k := (by rw [List.length_append, List.length_take]; omega); rw [ln3] at hown3; obtain ⟨A3, x3, rfl, _⟩ := own_form hown3; have td2 := heap_cell (heap_mod hT2 hW3 (fun h => h)) 2; have td0 := heap_cell (heap_mod hT2 hW3 (fun h => h)) 0; have HW3 := Lib.hid hW3; have HO3 := Lib.hid hown3; have HL3 := Lib.hid ln3; clear hW3 hown3 ln3)
          by_cases hk0 : k = 0
          · subst hk0
            have hW5 := HW3.out
            have hV5 : w3.ownsRow w1.heap.size 5 1 (.slice A3 (safe.length + 0) x3) (safe ++ tkept (ttail n ts) rest).length (bcells (safe ++ tkept (ttail n ts) rest)) := by
              have e : safe ++ tkept (ttail n ts) rest = safe ++ rest.take 0 := by rw [tkept, HKK.out]; rfl
              rw [e, HL3.out]; exact HO3.out
            have HW5 := Lib.hid hW5
            have HV5 := Lib.hid hV5
            have ownO := own_kept HMid.out.own (((HMT.out.then HM2.out).then hW5).alloc (.cells #[.int .i64 n, (.slice A3 (safe.length + 0) x3), .int .i64 ((safe.length : Int) + (0 : Nat))] 83 (0, 0))) (fun _ _ h => h)
            have szO : w1.heap.size ≤ (w3.alloc (.cells #[.int .i64 n, (.slice A3 (safe.length + 0) x3), .int .i64 ((safe.length : Int) + (0 : Nat))] 83 (0, 0))).heap.size := Nat.le_trans HMid.out.mod.size (((HMT.out.then HM2.out).then hW5).alloc _).size
            have hNB : (w3.alloc (.cells #[.int .i64 n, (.slice A3 (safe.length + 0) x3), .int .i64 ((safe.length : Int) + (0 : Nat))] 83 (0, 0))).heap[w3.heap.size]? = some (.cells #[.int .i64 n, (.slice A3 (safe.length + 0) x3), .int .i64 ((safe.length : Int) + (0 : Nat))] 83 (0, 0)) := heap_new w3 _
            have hnewO : ∀ ad, some (⟨w3.heap.size, 0, none⟩ : Addr) = some ad → ∀ j u, [Value.int .i64 n, (.slice A3 (safe.length + 0) x3), .int .i64 ((safe.length : Int) + (0 : Nat))][j]? = some u → (w3.alloc (.cells #[.int .i64 n, (.slice A3 (safe.length + 0) x3), .int .i64 ((safe.length : Int) + (0 : Nat))] 83 (0, 0))).cell? (ad.add j) = some u := by
              rintro ad e j u hu
              cases e
              rw [addr_add, Nat.zero_add]
              match j, hu with
              | 0, hu => cases hu; exact heap_cell hNB 0
              | 1, hu => cases hu; exact heap_cell hNB 1
              | 2, hu => cases hu; exact heap_cell hNB 2
            have tb5 := heap_cell (heap_mod hT2 hW5 (fun h => h)) 0
            clear hW5 hV5
            go_wp2_with (at_builtin; refine wp_append rfl _ _ 44 83 rfl (.agg #[.int .i64 0, .slice none 0 0, .int .i64 0]) 3 40 Try.underlying44 info83 rfl (by omega) (by omega) w1.heap.size u4 gs.length (rcells gs) rfl ownO (some ⟨w3.heap.size, 0, none⟩) 1 1 [.int .i64 n, (.slice A3 (safe.length + 0) x3), .int .i64 ((safe.length : Int) + (0 : Nat))] rfl rfl (fun e => by cases e) hnewO (by intro u hu; simp only [List.mem_cons, List.not_mem_nil, or_false] at hu; rcases hu with rfl | rfl | rfl <;> rfl) (by omega) szO ?_; intro v7 w7 hown7 hg7 hb7 hn7)
            have hstep := HMid.out.step (W := w3.alloc (.cells #[.int .i64 n, (.slice A3 (safe.length + 0) x3), .int .i64 ((safe.length : Int) + (0 : Nat))] 83 (0, 0))) (((HMT.out.then HM2.out).then HW5.out).alloc _) HAB.out (own_kept HV5.out ((Mod.refl Nil _).alloc _) (fun _ _ h => h)) hg7 (by rw [show (safe ++ tkept (ttail n ts) rest).length = safe.length + 0 by rw [List.length_append, tkept_length, HKK.out]]; exact hown7)
            have HStep := Lib.hid hstep
            clear hstep hown7 hg7 ownO hnewO
            go_roundw
            case rel => exact ⟨_, by simp only [List.length_append, List.length_singleton]; omega, by simp only [List.length_append, List.length_singleton]; go_num, HStep.out⟩
            case measure => simp only [intOf]; omega
          · obtain ⟨jj, rfl⟩ : ∃ jj, k = jj + 1 := ⟨k - 1, by omega⟩
            have hjl : jj < rest.length := by omega
            obtain ⟨b0, hb0⟩ : ∃ b0, b0 = rest[jj]'hjl := ⟨_, rfl⟩
            obtain ⟨g, hg, hA3⟩ : ∃ g, (Value.slice A3 (safe.length + (jj + 1)) x3).ownBlock = some g ∧ A3 = some ⟨g, 0, none⟩ := by
              rcases HO3.out.2 with ⟨_, h0⟩ | ⟨g, cap, cur, hv, _⟩
              · omega
              · simp only [Value.slice.injEq] at hv; exact ⟨g, by rw [hv.1]; rfl, hv.1⟩
            subst hA3
            have hgc := HO3.out.cells hg (safe.length + jj) (.int .u8 (b0.toNat : Int)) (by
              rw [bcells, List.getElem?_map, List.getElem?_append_right (by omega), show safe.length + jj - safe.length = jj by omega, List.getElem?_take, if_pos (by omega), List.getElem?_eq_getElem (by omega), hb0]; rfl)
            rw [addr_add, Nat.zero_add] at hgc
            have hgz := own_frozen (i := safe.length + jj) HO3.out hg
            have hgT : wr.heap.size ≤ g := by
              rcases hb3 with h | h
              · rw [hg] at h; have := Option.some.inj h; simp only at this; omega
              · rw [hg] at h; have := Option.some.inj h; rw [World.size_alloc] at this; omega
            have hxor := xor_u8 b0 (ttail n ts).turn
            have hmS : Mod (· = g) w3 (w3.setCell ⟨g, safe.length + jj, none⟩ (.int .u8 (bits .xor .u8 (b0.toNat : Int) ((ttail n ts).turn.toNat : Int)))) := (Mod.refl (· = g) w3).setCell (p := ⟨g, safe.length + jj, none⟩) (.inl rfl) _
            have hW5 : Mod Nil wr (w3.setCell ⟨g, safe.length + jj, none⟩ (.int .u8 (bits .xor .u8 (b0.toNat : Int) ((ttail n ts).turn.toNat : Int)))) := HW3.out.trans hmS (fun _ h => h.elim) (fun k hk => .inr (hk ▸ hgT))
            have hV5 : (w3.setCell ⟨g, safe.length + jj, none⟩ (.int .u8 (bits .xor .u8 (b0.toNat : Int) ((ttail n ts).turn.toNat : Int)))).ownsRow w1.heap.size 5 1 (.slice (some ⟨g, 0, none⟩) (safe.length + (jj + 1)) x3) (safe ++ tkept (ttail n ts) rest).length (bcells (safe ++ tkept (ttail n ts) rest)) := by
              have e : safe ++ tkept (ttail n ts) rest = (safe ++ rest.take (jj + 1)).set (safe.length + jj) (b0 ^^^ (ttail n ts).turn) := by rw [tkept, HKK.out, hb0, set_turned (by omega)]
              have := own_set (i := safe.length + jj) HO3.out hg (.int .u8 (bits .xor .u8 (b0.toNat : Int) ((ttail n ts).turn.toNat : Int)))
              rw [hxor, bcells_set] at this
              rw [hxor]
              rw [e, List.length_set, HL3.out]
              exact this
            clear hxor hb0
            have HW5 := Lib.hid hW5
            have HV5 := Lib.hid hV5
            have ownO := own_kept HMid.out.own (((HMT.out.then HM2.out).then hW5).alloc (.cells #[.int .i64 n, (.slice (some ⟨g, 0, none⟩) (safe.length + (jj + 1)) x3), .int .i64 ((safe.length : Int) + ((jj : Int) + 1))] 83 (0, 0))) (fun _ _ h => h)
            have szO : w1.heap.size ≤ ((w3.setCell ⟨g, safe.length + jj, none⟩ (.int .u8 (bits .xor .u8 (b0.toNat : Int) ((ttail n ts).turn.toNat : Int)))).alloc (.cells #[.int .i64 n, (.slice (some ⟨g, 0, none⟩) (safe.length + (jj + 1)) x3), .int .i64 ((safe.length : Int) + ((jj : Int) + 1))] 83 (0, 0))).heap.size := Nat.le_trans HMid.out.mod.size (((HMT.out.then HM2.out).then hW5).alloc _).size
            have hNB : ((w3.setCell ⟨g, safe.length + jj, none⟩ (.int .u8 (bits .xor .u8 (b0.toNat : Int) ((ttail n ts).turn.toNat : Int)))).alloc (.cells #[.int .i64 n, (.slice (some ⟨g, 0, none⟩) (safe.length + (jj + 1)) x3), .int .i64 ((safe.length : Int) + ((jj : Int) + 1))] 83 (0, 0))).heap[w3.heap.size]? = some (.cells #[.int .i64 n, (.slice (some ⟨g, 0, none⟩) (safe.length + (jj + 1)) x3), .int .i64 ((safe.length : Int) + ((jj : Int) + 1))] 83 (0, 0)) := (by have := heap_new (w3.setCell ⟨g, safe.length + jj, none⟩ (.int .u8 (bits .xor .u8 (b0.toNat : Int) ((ttail n ts).turn.toNat : Int)))) (.cells #[.int .i64 n, (.slice (some ⟨g, 0, none⟩) (safe.length + (jj + 1)) x3), .int .i64 ((safe.length : Int) + ((jj : Int) + 1))] 83 (0, 0)); rwa [World.size_setCell] at this)
            have hnewO : ∀ ad, some (⟨w3.heap.size, 0, none⟩ : Addr) = some ad → ∀ j u, [Value.int .i64 n, (.slice (some ⟨g, 0, none⟩) (safe.length + (jj + 1)) x3), .int .i64 ((safe.length : Int) + ((jj : Int) + 1))][j]? = some u → ((w3.setCell ⟨g, safe.length + jj, none⟩ (.int .u8 (bits .xor .u8 (b0.toNat : Int) ((ttail n ts).turn.toNat : Int)))).alloc (.cells #[.int .i64 n, (.slice (some ⟨g, 0, none⟩) (safe.length + (jj + 1)) x3), .int .i64 ((safe.length : Int) + ((jj : Int) + 1))] 83 (0, 0))).cell? (ad.add j) = some u := by
              rintro ad e j u hu
              cases e
              rw [addr_add, Nat.zero_add]
              match j, hu with
              | 0, hu => cases hu; exact heap_cell hNB 0
              | 1, hu => cases hu; exact heap_cell hNB 1
              | 2, hu => cases hu; exact heap_cell hNB 2
            have tb5 := heap_cell (heap_mod hT2 hW5 (fun h => h)) 0
            clear hW5 hV5
            go_wp2_with (at_builtin; refine wp_append rfl _ _ 44 83 rfl (.agg #[.int .i64 0, .slice none 0 0, .int .i64 0]) 3 40 Try.underlying44 info83 rfl (by omega) (by omega) w1.heap.size u4 gs.length (rcells gs) rfl ownO (some ⟨w3.heap.size, 0, none⟩) 1 1 [.int .i64 n, (.slice (some ⟨g, 0, none⟩) (safe.length + (jj + 1)) x3), .int .i64 ((safe.length : Int) + ((jj : Int) + 1))] rfl rfl (fun e => by cases e) hnewO (by intro u hu; simp only [List.mem_cons, List.not_mem_nil, or_false] at hu; rcases hu with rfl | rfl | rfl <;> rfl) (by omega) szO ?_; intro v7 w7 hown7 hg7 hb7 hn7)
            have hstep := HMid.out.step (W := (w3.setCell ⟨g, safe.length + jj, none⟩ (.int .u8 (bits .xor .u8 (b0.toNat : Int) ((ttail n ts).turn.toNat : Int)))).alloc (.cells #[.int .i64 n, (.slice (some ⟨g, 0, none⟩) (safe.length + (jj + 1)) x3), .int .i64 ((safe.length : Int) + ((jj : Int) + 1))] 83 (0, 0))) (((HMT.out.then HM2.out).then HW5.out).alloc _) HAB.out (own_kept HV5.out ((Mod.refl Nil _).alloc _) (fun _ _ h => h)) hg7 (by rw [show (safe ++ tkept (ttail n ts) rest).length = safe.length + (jj + 1) by rw [List.length_append, tkept_length, HKK.out]]; exact hown7)
            have HStep := Lib.hid hstep
            clear hstep hown7 hg7 ownO hnewO
            go_roundw
            case rel => exact ⟨_, by simp only [List.length_append, List.length_singleton]; omega, by simp only [List.length_append, List.length_singleton]; go_num, HStep.out⟩
            case measure => simp only [intOf]; omega
    · obtain hge : gs.length = fs.length := by omega
      obtain ⟨A9, x9, rfl, _⟩ := own_form HMid.out.own
      have hfin := rcrash_done H.out HM1.out hge HMid.out
      rw [hge] at hfin
      have HFin := Lib.hid hfin
      clear hfin
      go_wp2
      go_end0
      first | exact HFin.out | exact ⟨rfl, HFin.out⟩
end Go.Proofs.Ytnfecdjcddidgaa
