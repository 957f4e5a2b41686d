/- The document's drum: Append, where the file is new. -/
import Derived.Test.YtnfecdjcddidgaaRefF
namespace Go.Proofs.Ytnfecdjcddidgaa
open Go.RowKit Go.Maps

theorem bef_trans {ord : List Nat} (hnd : ord.Nodup) {a b c : Nat} (h1 : Bef ord a b) (h2 : Bef ord b c) : Bef ord a c := by
  induction ord with
  | nil => obtain ⟨o1, o2, e, _⟩ := h1; simp at e
  | cons z r ih =>
    have hn := List.nodup_cons.1 hnd
    have hbr : b ∈ r := by
      obtain ⟨o1, o2, e, hb⟩ := h1
      cases o1 with
      | nil => simp only [List.nil_append, List.cons.injEq] at e; rw [e.2]; exact hb
      | cons k q => simp only [List.cons_append, List.cons.injEq] at e; rw [e.2]; simp [hb]
    have hbz : b ≠ z := fun e => hn.1 (e ▸ hbr)
    have h2' := bef_tail h2 hbz
    by_cases haz : a = z
    · subst haz
      obtain ⟨o1, o2, e, hc⟩ := h2'
      exact ⟨[], r, rfl, by rw [e]; simp [hc]⟩
    · obtain ⟨o1, o2, e, hc⟩ := ih hn.2 (bef_tail h1 haz) h2'
      exact ⟨z :: o1, o2, by rw [e]; rfl, hc⟩
theorem valid_bef {ops : Array Oper} : ∀ {ord : List Nat} {L : Nat → Prop}, Valid ops L ord → ∀ x ∈ ord, ∀ e ∈ deps ops x, L e ∨ Bef ord e x
  | [], _, _, _, hx, _, _ => nomatch hx
  | z :: r, L, hv, x, hx, e, he => by
    rcases List.mem_cons.1 hx with rfl | hx'
    · exact .inl (hv.1 e he)
    · rcases valid_bef hv.2 x hx' e he with (h | rfl) | ⟨o1, o2, ho, hc⟩
      · exact .inl h
      · exact .inr ⟨[], r, rfl, hx'⟩
      · exact .inr ⟨z :: o1, o2, by rw [ho]; rfl, hc⟩
theorem drawn_dep {ops : Array Oper} {ord : List Nat} (h : Drawn ops ord) {x e : Nat} (hx : x < ops.size) (he : e ∈ deps ops x) : Bef ord e x :=
  (valid_bef h.ok x ((h.mem x).2 hx) e he).resolve_left id

theorem order23A {P : Program} {Q : Exit → Act → World → Prop} {a : Act} {w : World} {o0 o1 o2 o3 o4 o5 o6 o7 o8 o9 o10 o11 o12 o13 o14 o15 o16 o17 o18 o19 o20 o21 o22 : Oper} (cs cuts : List Nat) (E : List (Nat × Nat)) (HL : List Held) (hc : canonE P #[o0, o1, o2, o3, o4, o5, o6, o7, o8, o9, o10, o11, o12, o13, o14, o15, o16, o17, o18, o19, o20, o21, o22] cs cuts [9, 10, 11, 0, 1, 2, 3, 4, 5, 6, 7, 8, 12, 13, 14, 15, 16, 17, 18, 19, 20, 21, 22] E HL = true) (hj : JH HL w) {ord : List Nat} (hord : Drawn #[o0, o1, o2, o3, o4, o5, o6, o7, o8, o9, o10, o11, o12, o13, o14, o15, o16, o17, o18, o19, o20, o21, o22] ord) (hE : ∀ p ∈ E, Bef ord p.1 p.2)
    (h : wpCut P #[o0, o1, o2, o3, o4, o5, o6, o7, o8, o9, o10, o11, o12, o13, o14, o15, o16, o17, o18, o19, o20, o21, o22] (JH HL) (fun a' w' => (fitB #[o0, o1, o2, o3, o4, o5, o6, o7, o8, o9, o10, o11, o12, o13, o14, o15, o16, o17, o18, o19, o20, o21, o22] a' = true ∧ EndH HL a') ∧ Q .normal a' w') cuts [o9, o10, o11, o0, o1, o2, o3, o4, o5, o6, o7, o8, o12, o13, o14, o15, o16, o17, o18, o19, o20, o21, o22] a w) : wpOps P #[o0, o1, o2, o3, o4, o5, o6, o7, o8, o9, o10, o11, o12, o13, o14, o15, o16, o17, o18, o19, o20, o21, o22] Q ord a w :=
  wp_order (ops := #[o0, o1, o2, o3, o4, o5, o6, o7, o8, o9, o10, o11, o12, o13, o14, o15, o16, o17, o18, o19, o20, o21, o22]) (l := [o9, o10, o11, o0, o1, o2, o3, o4, o5, o6, o7, o8, o12, o13, o14, o15, o16, o17, o18, o19, o20, o21, o22]) cs cuts [9, 10, 11, 0, 1, 2, 3, 4, 5, 6, 7, 8, 12, 13, 14, 15, 16, 17, 18, 19, 20, 21, 22] E HL ⟨rfl, rfl, rfl, rfl, rfl, rfl, rfl, rfl, rfl, rfl, rfl, rfl, rfl, rfl, rfl, rfl, rfl, rfl, rfl, rfl, rfl, rfl, rfl, trivial⟩ hc hj hord hE h
theorem order23B {P : Program} {Q : Exit → Act → World → Prop} {a : Act} {w : World} {o0 o1 o2 o3 o4 o5 o6 o7 o8 o9 o10 o11 o12 o13 o14 o15 o16 o17 o18 o19 o20 o21 o22 : Oper} (cs cuts : List Nat) (E : List (Nat × Nat)) (HL : List Held) (hc : canonE P #[o0, o1, o2, o3, o4, o5, o6, o7, o8, o9, o10, o11, o12, o13, o14, o15, o16, o17, o18, o19, o20, o21, o22] cs cuts [0, 1, 9, 10, 11, 2, 3, 4, 5, 6, 7, 8, 12, 13, 14, 15, 16, 17, 18, 19, 20, 21, 22] E HL = true) (hj : JH HL w) {ord : List Nat} (hord : Drawn #[o0, o1, o2, o3, o4, o5, o6, o7, o8, o9, o10, o11, o12, o13, o14, o15, o16, o17, o18, o19, o20, o21, o22] ord) (hE : ∀ p ∈ E, Bef ord p.1 p.2)
    (h : wpCut P #[o0, o1, o2, o3, o4, o5, o6, o7, o8, o9, o10, o11, o12, o13, o14, o15, o16, o17, o18, o19, o20, o21, o22] (JH HL) (fun a' w' => (fitB #[o0, o1, o2, o3, o4, o5, o6, o7, o8, o9, o10, o11, o12, o13, o14, o15, o16, o17, o18, o19, o20, o21, o22] a' = true ∧ EndH HL a') ∧ Q .normal a' w') cuts [o0, o1, o9, o10, o11, o2, o3, o4, o5, o6, o7, o8, o12, o13, o14, o15, o16, o17, o18, o19, o20, o21, o22] a w) : wpOps P #[o0, o1, o2, o3, o4, o5, o6, o7, o8, o9, o10, o11, o12, o13, o14, o15, o16, o17, o18, o19, o20, o21, o22] Q ord a w :=
  wp_order (ops := #[o0, o1, o2, o3, o4, o5, o6, o7, o8, o9, o10, o11, o12, o13, o14, o15, o16, o17, o18, o19, o20, o21, o22]) (l := [o0, o1, o9, o10, o11, o2, o3, o4, o5, o6, o7, o8, o12, o13, o14, o15, o16, o17, o18, o19, o20, o21, o22]) cs cuts [0, 1, 9, 10, 11, 2, 3, 4, 5, 6, 7, 8, 12, 13, 14, 15, 16, 17, 18, 19, 20, 21, 22] E HL ⟨rfl, rfl, rfl, rfl, rfl, rfl, rfl, rfl, rfl, rfl, rfl, rfl, rfl, rfl, rfl, rfl, rfl, rfl, rfl, rfl, rfl, rfl, rfl, trivial⟩ hc hj hord hE h
theorem order23C {P : Program} {Q : Exit → Act → World → Prop} {a : Act} {w : World} {o0 o1 o2 o3 o4 o5 o6 o7 o8 o9 o10 o11 o12 o13 o14 o15 o16 o17 o18 o19 o20 o21 o22 : Oper} (cs cuts : List Nat) (E : List (Nat × Nat)) (HL : List Held) (hc : canonE P #[o0, o1, o2, o3, o4, o5, o6, o7, o8, o9, o10, o11, o12, o13, o14, o15, o16, o17, o18, o19, o20, o21, o22] cs cuts [0, 1, 2, 3, 4, 5, 6, 7, 8, 9, 10, 11, 12, 13, 14, 15, 16, 17, 18, 19, 20, 21, 22] E HL = true) (hj : JH HL w) {ord : List Nat} (hord : Drawn #[o0, o1, o2, o3, o4, o5, o6, o7, o8, o9, o10, o11, o12, o13, o14, o15, o16, o17, o18, o19, o20, o21, o22] ord) (hE : ∀ p ∈ E, Bef ord p.1 p.2)
    (h : wpCut P #[o0, o1, o2, o3, o4, o5, o6, o7, o8, o9, o10, o11, o12, o13, o14, o15, o16, o17, o18, o19, o20, o21, o22] (JH HL) (fun a' w' => (fitB #[o0, o1, o2, o3, o4, o5, o6, o7, o8, o9, o10, o11, o12, o13, o14, o15, o16, o17, o18, o19, o20, o21, o22] a' = true ∧ EndH HL a') ∧ Q .normal a' w') cuts [o0, o1, o2, o3, o4, o5, o6, o7, o8, o9, o10, o11, o12, o13, o14, o15, o16, o17, o18, o19, o20, o21, o22] a w) : wpOps P #[o0, o1, o2, o3, o4, o5, o6, o7, o8, o9, o10, o11, o12, o13, o14, o15, o16, o17, o18, o19, o20, o21, o22] Q ord a w :=
  wp_order (ops := #[o0, o1, o2, o3, o4, o5, o6, o7, o8, o9, o10, o11, o12, o13, o14, o15, o16, o17, o18, o19, o20, o21, o22]) (l := [o0, o1, o2, o3, o4, o5, o6, o7, o8, o9, o10, o11, o12, o13, o14, o15, o16, o17, o18, o19, o20, o21, o22]) cs cuts [0, 1, 2, 3, 4, 5, 6, 7, 8, 9, 10, 11, 12, 13, 14, 15, 16, 17, 18, 19, 20, 21, 22] E HL ⟨rfl, rfl, rfl, rfl, rfl, rfl, rfl, rfl, rfl, rfl, rfl, rfl, rfl, rfl, rfl, rfl, rfl, rfl, rfl, rfl, rfl, rfl, rfl, trivial⟩ hc hj hord hE h

def fz (n : Int) : RF := ⟨n, .slice none 0 0, [], []⟩
theorem rnew_done {w2 w5 : World} {r : Nat} {lv v : Value} {fs1 fs2 : List RF} {s : DSt} {n : Int} (h : Rf w2 r lv (fs1 ++ fs2) s) (hr : 1 ≤ n ∧ n ≤ 1000) (l1 : ∀ g ∈ fs1, g.n < n) (l2 : ∀ g ∈ fs2, n < g.n) (hm5 : Mod Nil w2 w5)
    (hown : w5.ownsRow w2.heap.size 83 3 v (fs1 ++ fz n :: fs2).length (rcells (fs1 ++ fz n :: fs2))) :
    Rf (w5.setCell ⟨r, 0, none⟩ v) r v (fs1 ++ fz n :: fs2) s ∧ Mod (· = r) w2 (w5.setCell ⟨r, 0, none⟩ v) ∧ ∀ b, v.ownBlock = some b → w2.heap.size ≤ b := by
  have hrl := heap_lt h.st
  have hm6 : Mod (· = r) w2 (w5.setCell ⟨r, 0, none⟩ v) := Mod.setCell (M := (· = r)) (hm5.mono fun _ h => h.elim) (p := ⟨r, 0, none⟩) (.inl rfl) _
  have hsum : psum (rabs (fs1 ++ fz n :: fs2)) = psum (rabs (fs1 ++ fs2)) := by rw [rsum_app, rsum_app, rsum_cons]; simp [fz]
  refine ⟨⟨?_, ?_, ?_, ?_, ?_, by rw [hsum]; exact h.room⟩, hm6, fun b hb => (hown.lt b hb).1⟩
  · rw [hsum]; exact heap_setCell (heap_mod h.st hm5 (fun h => h)) 0 v
  · exact own_base (own_kept hown ((Mod.refl (· = r) w5).setCell (p := ⟨r, 0, none⟩) (.inl rfl) _) fun k hk e => by have := (hown.lt k hk).1; omega) fun _ _ => Nat.zero_le _
  · intro g hg
    rcases List.mem_append.1 hg with hg | hg
    · exact h.bytes_kept hm6 (fun k hk => .inl hk) (by simp [hg])
    · rcases List.mem_cons.1 hg with rfl | hg
      · exact World.ownsRow_nil _ _ _ _
      · exact h.bytes_kept hm6 (fun k hk => .inl hk) (by simp [hg])
  · have := h.sorted
    rw [List.pairwise_append] at this
    rw [List.pairwise_append, List.pairwise_cons]
    refine ⟨this.1, ⟨fun g hg => l2 g hg, this.2.1⟩, fun a ha b hb => ?_⟩
    rcases List.mem_cons.1 hb with rfl | hb
    · exact l1 a ha
    · exact this.2.2 a ha b hb
  · intro g hg
    rcases List.mem_append.1 hg with hg | hg
    · exact h.rng g (by simp [hg])
    · rcases List.mem_cons.1 hg with rfl | hg
      · exact hr
      · exact h.rng g (by simp [hg])

set_option maxRecDepth 100000 in
set_option maxHeartbeats 4000000 in
theorem rapp_new {w : World} {r : Nat} {lv : Value} {fs1 fs2 : List RF} {s : DSt} (h : Rf w r lv (fs1 ++ fs2) s) (n : Int) (hr : 1 ≤ n ∧ n ≤ 1000) (l1 : ∀ g ∈ fs1, g.n < n) (l2 : ∀ g ∈ fs2, n < g.n) (hf : Sane s) (hc : gcode n s = 0) {F : Nat → Prop} {Ab : Option Addr} {cb : Nat} {bs : List UInt8}
    (hF : ∀ b, F b → b < w.heap.size ∧ b ≠ r) (hS : SC Rdr.byte F w Ab bs) (hroom : (bs.length : Int) ≤ s.free) :
    Calls Try.prog 15 #[.pointer (some ⟨r, 0, none⟩), .int .i64 n, .slice Ab bs.length cb] w (RRet r lv (fs1 ++ fs2) w (bump (appF n bs (rabs (fs1 ++ fs2)) (gst n s)))) := by
  have hbeg := begin_any h n hf.l
  obtain ⟨nr1, nr2⟩ := hr
  have hops := hf.o
  rw [← gst_ops n s] at hops
  obtain ⟨ho1, ho2⟩ := hops
  have hrm := h.room
  have hpn := psum_nonneg (rabs (fs1 ++ fs2))
  rw [hc] at hbeg
  clear h hf hc
  go_enter Try.func15, Try.ntmps15
  go_wp2_with fail
  refine hbeg.mono ?_
  rintro e w1 ⟨rfl, hR1, hm1⟩
  have hfree := rfree_any hR1
  rw [gst_free] at hfree
  have hfind := find_any hR1 n l1 (fun g hg => Int.le_of_lt (l2 g hg))
  rw [hdIs_no l2] at hfind
  have hS1 := hS.frame (w' := w1) (by decide) fun b hb hlt => hm1.block b hlt (hF b hb).2
  have hFlt : ∀ b, F b → b ≠ r := fun b hb => (hF b hb).2
  have H1 := Lib.hid hR1
  have HM1 := Lib.hid hm1
  have HS1 := Lib.hid hS1
  clear hR1 hm1 hbeg hS hS1 hF
  go_wp2_with fail
  refine hfree.mono ?_
  rintro e w1' ⟨rfl, rfl⟩
  clear hfree
  go_wp2_with fail
  refine hfind.mono ?_
  rintro e w2 ⟨rfl, hm2⟩
  have H2 := Lib.hid (H1.out.kept hm2 (fun k _ hk => hk))
  have HM2 := Lib.hid (HM1.out.trans hm2 (M := (· = r)) (fun _ h => .inl h) (fun _ h => h.elim))
  have hS2 := Lib.hid (HS1.out.kept (by decide) hm2 (fun _ _ _ h => h))
  clear hfind hm2
  have hcnt := H2.out.count
  rw [List.length_append] at hcnt
  have hrlt : r < w2.heap.size := heap_lt H2.out.st
  go_upto_region 8 with fail
  go_cut [8] from 29 to 76 (fun v wc => v = .int .i64 fs1.length ∧ ∃ lvX, Rf wc r lvX (fs1 ++ fz n :: fs2) (gst n s) ∧ Mod (· = r) w2 wc ∧ ∀ b, lvX.ownBlock = some b → w2.heap.size ≤ b)
  case first =>
    have c0 : w2.cell? ⟨r, 0, none⟩ = some lv := heap_cell H2.out.st 0
    have z0 : w2.frozen? ⟨r, 0, none⟩ = false := heap_free H2.out.st 0
    have hnl := rcells_length fs1
    have hone1 := rcells_one fs1 (fun g hg => own_one (H2.out.fl g (by simp [hg])))
    have hone2 := rcells_one fs2 (fun g hg => own_one (H2.out.fl g (by simp [hg])))
    go_wp2
    refine wp_drawn mixed (by kernel_rfl) fun ord hord => ?_
    have m1' : (1 : Nat) ∈ ord := (hord.mem 1).2 (by decide)
    have m8' : (8 : Nat) ∈ ord := (hord.mem 8).2 (by decide)
    have m11' : (11 : Nat) ∈ ord := (hord.mem 11).2 (by decide)
    have b18 : Bef ord 1 8 := drawn_dep hord (by decide) (by decide)
    rcases H2.out.ls.2 with ⟨hlv, h0⟩ | ⟨lb, c, cur, hlv, _, hlbh, hcap, _⟩
    · rw [List.length_append] at h0
      obtain rfl : fs1 = [] := List.eq_nil_of_length_eq_zero (by omega)
      obtain rfl : fs2 = [] := List.eq_nil_of_length_eq_zero (by omega)
      rw [hlv] at c0
      rcases bef_total m1' m11' (by decide) with b1 | b1
      · rcases bef_total m8' m11' (by decide) with b2 | b2
        · have HE : Bef ord 1 11 ∧ Bef ord 8 11 := ⟨b1, b2⟩
          refine order23C [0, 2, 0, 0, 0, 3, 0, 0, 2, 0, 0, 2, 2, 0, 0, 0, 3, 0, 0, 2, 0, 0, 2] [2, 7, 3, 1, 7] [(1, 11), (8, 11)] [⟨5, 44, .tmp 33, ⟨r, 0, none⟩, .slice none 0 0⟩, ⟨16, 44, .tmp 44, ⟨r, 0, none⟩, .slice none 0 0⟩] (by kernel_rfl) (JH.cons (w := w2.drew) c0 (JH.one (w := w2.drew) c0)) hord (by simpa using HE) ?_
          simp only [wpCut, List.take_succ_cons, List.take_zero, List.drop_succ_cons, List.drop_zero]
          go_wp2_with fail
          have mA : Mod Nil w2 (w2.alloc (.cells #[] 83 (0, 0))).drew := ((Mod.refl Nil w2).alloc _).drew
          have ccmA := (World.cell?_of_block (mA.block r hrlt (fun h => h)) (a := ⟨r, 0, none⟩)).trans c0
          refine nf_cut (JH.cons ccmA (JH.one ccmA)) ?_
          have hE0 : ((w2.alloc (.cells #[] 83 (0, 0))).drew).heap[w2.heap.size]? = some (.cells #[] 83 (0, 0)) := heap_new w2 _
          have hown0 : ((w2.alloc (.cells #[] 83 (0, 0))).drew).ownsRow w2.heap.size 83 3 (.slice (some ⟨w2.heap.size, 0, none⟩) 0 0) 0 [] := ⟨rfl, .inr ⟨_, 0, #[], rfl, by omega, hE0, Nat.le_refl _, by decide, rfl, rfl⟩⟩
          have hszA := mA.size
          go_wp2_with (at_builtin; refine wp_append rfl _ _ 44 83 rfl (.agg #[.int .i64 0, .slice none 0 0, .int .i64 0]) 3 40 Try.underlying44 info83 rfl (by omega) (by omega) w2.heap.size (.slice (some ⟨w2.heap.size, 0, none⟩) 0 0) 0 [] rfl hown0 _ _ _ (rcells ([] : List RF)) rfl (by first | rfl | exact hnl) (by first | (intro e; cases e; done) | (intro _; rfl)) (by intro ad e; cases e) hone1 (by omega) hszA ?_; intro v1 w3 hown1 hg1 hb1 hn1; have m3 := mA.grown hg1 (fun k hk => .inr (hown0.lt k hk).1); rw [Nat.zero_add, List.nil_append] at hown1)
          have ccm3 := (World.cell?_of_block (m3.block r hrlt (fun h => h)) (a := ⟨r, 0, none⟩)).trans c0
          refine nf_cut (JH.cons ccm3 (JH.one ccm3)) ?_
          go_wp2_with fail
          have m4 : Mod Nil w2 (w3.alloc (.cells #[.int .i64 n, .slice none 0 0, .int .i64 0] 83 (0, 0))) := m3.alloc _
          have ccm4 := (World.cell?_of_block (m4.block r hrlt (fun h => h)) (a := ⟨r, 0, none⟩)).trans c0
          refine nf_cut (JH.cons ccm4 (JH.one ccm4)) ?_
          have hS4 : (w3.alloc (.cells #[.int .i64 n, .slice none 0 0, .int .i64 0] 83 (0, 0))).heap[w3.heap.size]? = some (.cells #[.int .i64 n, .slice none 0 0, .int .i64 0] 83 (0, 0)) := heap_new w3 _
          have hown1b : (w3.alloc (.cells #[.int .i64 n, .slice none 0 0, .int .i64 0] 83 (0, 0))).ownsRow w2.heap.size 83 3 v1 ([] : List RF).length (rcells ([] : List RF)) := own_kept hown1 ((Mod.refl Nil w3).alloc _) (fun _ _ h => h)
          have hnew2 : ∀ ad, some (⟨w3.heap.size, 0, none⟩ : Addr) = some ad → ∀ j u, [Value.int .i64 n, .slice none 0 0, .int .i64 0][j]? = some u → (w3.alloc (.cells #[.int .i64 n, .slice none 0 0, .int .i64 0] 83 (0, 0))).cell? (ad.add j) = some u := by
            rintro ad e j u hu
            cases e
            rw [addr_add, Nat.zero_add]
            match j, hu with
            | 0, hu => cases hu; exact heap_cell hS4 0
            | 1, hu => cases hu; exact heap_cell hS4 1
            | 2, hu => cases hu; exact heap_cell hS4 2
          have hsz4 := m4.size
          go_wp2_with (at_builtin; refine wp_append rfl _ _ 44 83 rfl (.agg #[.int .i64 0, .slice none 0 0, .int .i64 0]) 3 40 Try.underlying44 info83 rfl (by omega) (by omega) w2.heap.size v1 ([] : List RF).length (rcells ([] : List RF)) rfl hown1b (some ⟨w3.heap.size, 0, none⟩) 1 1 [.int .i64 n, .slice none 0 0, .int .i64 0] rfl rfl (fun e => by cases e) hnew2 (by intro u hu; simp only [List.mem_cons, List.not_mem_nil, or_false] at hu; rcases hu with rfl | rfl | rfl <;> rfl) (by omega) hsz4 ?_; intro v2 w5 hown2 hg2 hb2 hn2; have m5 := m4.grown hg2 (fun k hk => .inr (hown1b.lt k hk).1))
          have ccm5 := (World.cell?_of_block (m5.block r hrlt (fun h => h)) (a := ⟨r, 0, none⟩)).trans c0
          refine nf_cut (JH.cons ccm5 (JH.one ccm5)) ?_
          have hsz5 := m5.size
          go_wp2_with (at_builtin; refine wp_append rfl _ _ 44 83 rfl (.agg #[.int .i64 0, .slice none 0 0, .int .i64 0]) 3 40 Try.underlying44 info83 rfl (by omega) (by omega) w2.heap.size v2 (([] : List RF).length + 1) (rcells ([] : List RF) ++ [.int .i64 n, .slice none 0 0, .int .i64 0]) rfl hown2 _ _ _ (rcells ([] : List RF)) rfl (by first | rfl | (rw [rcells_length]; done) | (rw [rcells_length]; omega)) (by first | (intro e; cases e; done) | (intro _; rfl)) (by intro ad e; cases e) hone2 (by omega) hsz5 ?_; intro v3 w6 hown3 hg3 hb3 hn3; obtain ⟨A4, x4, rfl, _⟩ := own_form hown3; have m6 := m5.grown hg3 (fun k hk => .inr (hown2.lt k hk).1); have z0' := (World.frozen?_of_block (m6.block r hrlt (fun h => h)) (a := ⟨r, 0, none⟩)).trans z0)
          have ccm6 := (World.cell?_of_block (m6.block r hrlt (fun h => h)) (a := ⟨r, 0, none⟩)).trans c0
          refine nf_cut (JH.cons ccm6 (JH.one ccm6)) ?_
          go_wp2_with fail
          refine nf_last (by kernel_rfl) ⟨rfl, rfl, trivial⟩ ?_
          go_wp2_with fail
          go_meet
          case rel =>
            refine ⟨rfl, _, rnew_done H2.out ⟨nr1, nr2⟩ l1 l2 m6 ?_⟩
            simpa [rcells, RF.cells, fz] using hown3
        · have HE : Bef ord 1 11 ∧ Bef ord 11 8 := ⟨b1, b2⟩
          refine order23B [0, 2, 0, 0, 0, 3, 0, 0, 2, 0, 0, 2, 2, 0, 0, 0, 3, 0, 0, 2, 0, 0, 2] [2, 3, 7, 1, 7] [(1, 11), (11, 8)] [⟨5, 44, .tmp 33, ⟨r, 0, none⟩, .slice none 0 0⟩, ⟨16, 44, .tmp 44, ⟨r, 0, none⟩, .slice none 0 0⟩] (by kernel_rfl) (JH.cons (w := w2.drew) c0 (JH.one (w := w2.drew) c0)) hord (by simpa using HE) ?_
          simp only [wpCut, List.take_succ_cons, List.take_zero, List.drop_succ_cons, List.drop_zero]
          go_wp2_with fail
          have m1 : Mod Nil w2 (w2.alloc (.cells #[] 83 (0, 0))).drew := ((Mod.refl Nil w2).alloc _).drew
          have ccm1 := (World.cell?_of_block (m1.block r hrlt (fun h => h)) (a := ⟨r, 0, none⟩)).trans c0
          refine nf_cut (JH.cons ccm1 (JH.one ccm1)) ?_
          go_wp2_with fail
          have mA : Mod Nil w2 ((w2.alloc (.cells #[] 83 (0, 0))).alloc (.cells #[.int .i64 n, .slice none 0 0, .int .i64 0] 83 (0, 0))).drew := (((Mod.refl Nil w2).alloc _).alloc _).drew
          have ccmA := (World.cell?_of_block (mA.block r hrlt (fun h => h)) (a := ⟨r, 0, none⟩)).trans c0
          refine nf_cut (JH.cons ccmA (JH.one ccmA)) ?_
          have hE0 : (((w2.alloc (.cells #[] 83 (0, 0))).alloc (.cells #[.int .i64 n, .slice none 0 0, .int .i64 0] 83 (0, 0))).drew).heap[w2.heap.size]? = some (.cells #[] 83 (0, 0)) := heap_alloc (heap_new w2 _) _
          have hSA : (((w2.alloc (.cells #[] 83 (0, 0))).alloc (.cells #[.int .i64 n, .slice none 0 0, .int .i64 0] 83 (0, 0))).drew).heap[w2.heap.size + 1]? = some (.cells #[.int .i64 n, .slice none 0 0, .int .i64 0] 83 (0, 0)) := by have := heap_new (w2.alloc (.cells #[] 83 (0, 0))) (.cells #[.int .i64 n, .slice none 0 0, .int .i64 0] 83 (0, 0)); rwa [World.size_alloc] at this
          have hown0 : (((w2.alloc (.cells #[] 83 (0, 0))).alloc (.cells #[.int .i64 n, .slice none 0 0, .int .i64 0] 83 (0, 0))).drew).ownsRow w2.heap.size 83 3 (.slice (some ⟨w2.heap.size, 0, none⟩) 0 0) 0 [] := ⟨rfl, .inr ⟨_, 0, #[], rfl, by omega, hE0, Nat.le_refl _, by decide, rfl, rfl⟩⟩
          have hszA := mA.size
          go_wp2_with (at_builtin; refine wp_append rfl _ _ 44 83 rfl (.agg #[.int .i64 0, .slice none 0 0, .int .i64 0]) 3 40 Try.underlying44 info83 rfl (by omega) (by omega) w2.heap.size (.slice (some ⟨w2.heap.size, 0, none⟩) 0 0) 0 [] rfl hown0 _ _ _ (rcells ([] : List RF)) rfl (by first | rfl | exact hnl) (by first | (intro e; cases e; done) | (intro _; rfl)) (by intro ad e; cases e) hone1 (by omega) hszA ?_; intro v1 w3 hown1 hg1 hb1 hn1; have m3 := mA.grown hg1 (fun k hk => .inr (hown0.lt k hk).1); rw [Nat.zero_add, List.nil_append] at hown1)
          have ccm3 := (World.cell?_of_block (m3.block r hrlt (fun h => h)) (a := ⟨r, 0, none⟩)).trans c0
          refine nf_cut (JH.cons ccm3 (JH.one ccm3)) ?_
          have m4 := m3
          have hS4 : w3.heap[(w2.heap.size + 1)]? = some (.cells #[.int .i64 n, .slice none 0 0, .int .i64 0] 83 (0, 0)) := (hg1.block _ (heap_lt hSA) (by simp [Value.ownBlock])).trans hSA
          have hown1b : w3.ownsRow w2.heap.size 83 3 v1 ([] : List RF).length (rcells ([] : List RF)) := hown1
          have hnew2 : ∀ ad, some (⟨(w2.heap.size + 1), 0, none⟩ : Addr) = some ad → ∀ j u, [Value.int .i64 n, .slice none 0 0, .int .i64 0][j]? = some u → w3.cell? (ad.add j) = some u := by
            rintro ad e j u hu
            cases e
            rw [addr_add, Nat.zero_add]
            match j, hu with
            | 0, hu => cases hu; exact heap_cell hS4 0
            | 1, hu => cases hu; exact heap_cell hS4 1
            | 2, hu => cases hu; exact heap_cell hS4 2
          have hsz4 := m4.size
          go_wp2_with (at_builtin; refine wp_append rfl _ _ 44 83 rfl (.agg #[.int .i64 0, .slice none 0 0, .int .i64 0]) 3 40 Try.underlying44 info83 rfl (by omega) (by omega) w2.heap.size v1 ([] : List RF).length (rcells ([] : List RF)) rfl hown1b (some ⟨(w2.heap.size + 1), 0, none⟩) 1 1 [.int .i64 n, .slice none 0 0, .int .i64 0] rfl rfl (fun e => by cases e) hnew2 (by intro u hu; simp only [List.mem_cons, List.not_mem_nil, or_false] at hu; rcases hu with rfl | rfl | rfl <;> rfl) (by omega) hsz4 ?_; intro v2 w5 hown2 hg2 hb2 hn2; have m5 := m4.grown hg2 (fun k hk => .inr (hown1b.lt k hk).1))
          have ccm5 := (World.cell?_of_block (m5.block r hrlt (fun h => h)) (a := ⟨r, 0, none⟩)).trans c0
          refine nf_cut (JH.cons ccm5 (JH.one ccm5)) ?_
          have hsz5 := m5.size
          go_wp2_with (at_builtin; refine wp_append rfl _ _ 44 83 rfl (.agg #[.int .i64 0, .slice none 0 0, .int .i64 0]) 3 40 Try.underlying44 info83 rfl (by omega) (by omega) w2.heap.size v2 (([] : List RF).length + 1) (rcells ([] : List RF) ++ [.int .i64 n, .slice none 0 0, .int .i64 0]) rfl hown2 _ _ _ (rcells ([] : List RF)) rfl (by first | rfl | (rw [rcells_length]; done) | (rw [rcells_length]; omega)) (by first | (intro e; cases e; done) | (intro _; rfl)) (by intro ad e; cases e) hone2 (by omega) hsz5 ?_; intro v3 w6 hown3 hg3 hb3 hn3; obtain ⟨A4, x4, rfl, _⟩ := own_form hown3; have m6 := m5.grown hg3 (fun k hk => .inr (hown2.lt k hk).1); have z0' := (World.frozen?_of_block (m6.block r hrlt (fun h => h)) (a := ⟨r, 0, none⟩)).trans z0)
          have ccm6 := (World.cell?_of_block (m6.block r hrlt (fun h => h)) (a := ⟨r, 0, none⟩)).trans c0
          refine nf_cut (JH.cons ccm6 (JH.one ccm6)) ?_
          go_wp2_with fail
          refine nf_last (by kernel_rfl) ⟨rfl, rfl, trivial⟩ ?_
          go_wp2_with fail
          go_meet
          case rel =>
            refine ⟨rfl, _, rnew_done H2.out ⟨nr1, nr2⟩ l1 l2 m6 ?_⟩
            simpa [rcells, RF.cells, fz] using hown3
      · have HE : Bef ord 11 1 ∧ Bef ord 11 8 := ⟨b1, bef_trans hord.nd b1 b18⟩
        refine order23A [0, 2, 0, 0, 0, 3, 0, 0, 2, 0, 0, 2, 2, 0, 0, 0, 3, 0, 0, 2, 0, 0, 2] [3, 2, 7, 1, 7] [(11, 1), (11, 8)] [⟨5, 44, .tmp 33, ⟨r, 0, none⟩, .slice none 0 0⟩, ⟨16, 44, .tmp 44, ⟨r, 0, none⟩, .slice none 0 0⟩] (by kernel_rfl) (JH.cons (w := w2.drew) c0 (JH.one (w := w2.drew) c0)) hord (by simpa using HE) ?_
        simp only [wpCut, List.take_succ_cons, List.take_zero, List.drop_succ_cons, List.drop_zero]
        go_wp2_with fail
        have m1 : Mod Nil w2 (w2.alloc (.cells #[.int .i64 n, .slice none 0 0, .int .i64 0] 83 (0, 0))).drew := ((Mod.refl Nil w2).alloc _).drew
        have ccm1 := (World.cell?_of_block (m1.block r hrlt (fun h => h)) (a := ⟨r, 0, none⟩)).trans c0
        refine nf_cut (JH.cons ccm1 (JH.one ccm1)) ?_
        go_wp2_with fail
        have mA : Mod Nil w2 ((w2.alloc (.cells #[.int .i64 n, .slice none 0 0, .int .i64 0] 83 (0, 0))).alloc (.cells #[] 83 (0, 0))).drew := (((Mod.refl Nil w2).alloc _).alloc _).drew
        have ccmA := (World.cell?_of_block (mA.block r hrlt (fun h => h)) (a := ⟨r, 0, none⟩)).trans c0
        refine nf_cut (JH.cons ccmA (JH.one ccmA)) ?_
        have hE0 : (((w2.alloc (.cells #[.int .i64 n, .slice none 0 0, .int .i64 0] 83 (0, 0))).alloc (.cells #[] 83 (0, 0))).drew).heap[w2.heap.size + 1]? = some (.cells #[] 83 (0, 0)) := by have := heap_new (w2.alloc (.cells #[.int .i64 n, .slice none 0 0, .int .i64 0] 83 (0, 0))) (.cells #[] 83 (0, 0)); rwa [World.size_alloc] at this
        have hSA : (((w2.alloc (.cells #[.int .i64 n, .slice none 0 0, .int .i64 0] 83 (0, 0))).alloc (.cells #[] 83 (0, 0))).drew).heap[w2.heap.size]? = some (.cells #[.int .i64 n, .slice none 0 0, .int .i64 0] 83 (0, 0)) := heap_alloc (heap_new w2 _) _
        have hown0 : (((w2.alloc (.cells #[.int .i64 n, .slice none 0 0, .int .i64 0] 83 (0, 0))).alloc (.cells #[] 83 (0, 0))).drew).ownsRow w2.heap.size 83 3 (.slice (some ⟨(w2.heap.size + 1), 0, none⟩) 0 0) 0 [] := ⟨rfl, .inr ⟨_, 0, #[], rfl, by omega, hE0, Nat.le_refl _, by decide, rfl, rfl⟩⟩
        have hszA := mA.size
        go_wp2_with (at_builtin; refine wp_append rfl _ _ 44 83 rfl (.agg #[.int .i64 0, .slice none 0 0, .int .i64 0]) 3 40 Try.underlying44 info83 rfl (by omega) (by omega) w2.heap.size (.slice (some ⟨(w2.heap.size + 1), 0, none⟩) 0 0) 0 [] rfl hown0 _ _ _ (rcells ([] : List RF)) rfl (by first | rfl | exact hnl) (by first | (intro e; cases e; done) | (intro _; rfl)) (by intro ad e; cases e) hone1 (by omega) hszA ?_; intro v1 w3 hown1 hg1 hb1 hn1; have m3 := mA.grown hg1 (fun k hk => .inr (hown0.lt k hk).1); rw [Nat.zero_add, List.nil_append] at hown1)
        have ccm3 := (World.cell?_of_block (m3.block r hrlt (fun h => h)) (a := ⟨r, 0, none⟩)).trans c0
        refine nf_cut (JH.cons ccm3 (JH.one ccm3)) ?_
        have m4 := m3
        have hS4 : w3.heap[w2.heap.size]? = some (.cells #[.int .i64 n, .slice none 0 0, .int .i64 0] 83 (0, 0)) := (hg1.block _ (heap_lt hSA) (by simp [Value.ownBlock])).trans hSA
        have hown1b : w3.ownsRow w2.heap.size 83 3 v1 ([] : List RF).length (rcells ([] : List RF)) := hown1
        have hnew2 : ∀ ad, some (⟨w2.heap.size, 0, none⟩ : Addr) = some ad → ∀ j u, [Value.int .i64 n, .slice none 0 0, .int .i64 0][j]? = some u → w3.cell? (ad.add j) = some u := by
          rintro ad e j u hu
          cases e
          rw [addr_add, Nat.zero_add]
          match j, hu with
          | 0, hu => cases hu; exact heap_cell hS4 0
          | 1, hu => cases hu; exact heap_cell hS4 1
          | 2, hu => cases hu; exact heap_cell hS4 2
        have hsz4 := m4.size
        go_wp2_with (at_builtin; refine wp_append rfl _ _ 44 83 rfl (.agg #[.int .i64 0, .slice none 0 0, .int .i64 0]) 3 40 Try.underlying44 info83 rfl (by omega) (by omega) w2.heap.size v1 ([] : List RF).length (rcells ([] : List RF)) rfl hown1b (some ⟨w2.heap.size, 0, none⟩) 1 1 [.int .i64 n, .slice none 0 0, .int .i64 0] rfl rfl (fun e => by cases e) hnew2 (by intro u hu; simp only [List.mem_cons, List.not_mem_nil, or_false] at hu; rcases hu with rfl | rfl | rfl <;> rfl) (by omega) hsz4 ?_; intro v2 w5 hown2 hg2 hb2 hn2; have m5 := m4.grown hg2 (fun k hk => .inr (hown1b.lt k hk).1))
        have ccm5 := (World.cell?_of_block (m5.block r hrlt (fun h => h)) (a := ⟨r, 0, none⟩)).trans c0
        refine nf_cut (JH.cons ccm5 (JH.one ccm5)) ?_
        have hsz5 := m5.size
        go_wp2_with (at_builtin; refine wp_append rfl _ _ 44 83 rfl (.agg #[.int .i64 0, .slice none 0 0, .int .i64 0]) 3 40 Try.underlying44 info83 rfl (by omega) (by omega) w2.heap.size v2 (([] : List RF).length + 1) (rcells ([] : List RF) ++ [.int .i64 n, .slice none 0 0, .int .i64 0]) rfl hown2 _ _ _ (rcells ([] : List RF)) rfl (by first | rfl | (rw [rcells_length]; done) | (rw [rcells_length]; omega)) (by first | (intro e; cases e; done) | (intro _; rfl)) (by intro ad e; cases e) hone2 (by omega) hsz5 ?_; intro v3 w6 hown3 hg3 hb3 hn3; obtain ⟨A4, x4, rfl, _⟩ := own_form hown3; have m6 := m5.grown hg3 (fun k hk => .inr (hown2.lt k hk).1); have z0' := (World.frozen?_of_block (m6.block r hrlt (fun h => h)) (a := ⟨r, 0, none⟩)).trans z0)
        have ccm6 := (World.cell?_of_block (m6.block r hrlt (fun h => h)) (a := ⟨r, 0, none⟩)).trans c0
        refine nf_cut (JH.cons ccm6 (JH.one ccm6)) ?_
        go_wp2_with fail
        refine nf_last (by kernel_rfl) ⟨rfl, rfl, trivial⟩ ?_
        go_wp2_with fail
        go_meet
        case rel =>
          refine ⟨rfl, _, rnew_done H2.out ⟨nr1, nr2⟩ l1 l2 m6 ?_⟩
          simpa [rcells, RF.cells, fz] using hown3
    · have hlb : lv.ownBlock = some lb := by rw [hlv]; rfl
      have hlblt : lb < w2.heap.size := heap_lt hlbh
      have hp1 := Rf.part (a := []) (b := fs1) (c := fs2) H2.out hlb
      have hp2 := Rf.part (a := fs1) (b := fs2) (c := []) (by simpa using H2.out) hlb
      rw [hlv] at c0
      rw [List.length_append] at c0 hcap
      by_cases hcc : c = fs1.length
      · subst hcc
        obtain rfl : fs2 = [] := List.eq_nil_of_length_eq_zero (by omega)
        simp only [List.length_nil, Nat.add_zero] at c0 hcap hcnt
        rcases bef_total m1' m11' (by decide) with b1 | b1
        · rcases bef_total m8' m11' (by decide) with b2 | b2
          · have HE : Bef ord 1 11 ∧ Bef ord 8 11 := ⟨b1, b2⟩
            refine order23C [0, 2, 0, 0, 0, 3, 0, 0, 2, 0, 0, 2, 2, 0, 0, 0, 3, 0, 0, 2, 0, 0, 2] [2, 7, 3, 1, 7] [(1, 11), (8, 11)] [⟨5, 44, .tmp 33, ⟨r, 0, none⟩, .slice (some ⟨lb, 0, none⟩) fs1.length fs1.length⟩, ⟨16, 44, .tmp 44, ⟨r, 0, none⟩, .slice (some ⟨lb, 0, none⟩) fs1.length fs1.length⟩] (by kernel_rfl) (JH.cons (w := w2.drew) c0 (JH.one (w := w2.drew) c0)) hord (by simpa using HE) ?_
            simp only [wpCut, List.take_succ_cons, List.take_zero, List.drop_succ_cons, List.drop_zero]
            go_wp2_with fail
            have mA : Mod Nil w2 (w2.alloc (.cells #[] 83 (0, 0))).drew := ((Mod.refl Nil w2).alloc _).drew
            have ccmA := (World.cell?_of_block (mA.block r hrlt (fun h => h)) (a := ⟨r, 0, none⟩)).trans c0
            refine nf_cut (JH.cons ccmA (JH.one ccmA)) ?_
            have hE0 : ((w2.alloc (.cells #[] 83 (0, 0))).drew).heap[w2.heap.size]? = some (.cells #[] 83 (0, 0)) := heap_new w2 _
            have hown0 : ((w2.alloc (.cells #[] 83 (0, 0))).drew).ownsRow w2.heap.size 83 3 (.slice (some ⟨w2.heap.size, 0, none⟩) 0 0) 0 [] := ⟨rfl, .inr ⟨_, 0, #[], rfl, by omega, hE0, Nat.le_refl _, by decide, rfl, rfl⟩⟩
            have hszA := mA.size
            go_wp2_with (at_builtin; refine wp_append rfl _ _ 44 83 rfl (.agg #[.int .i64 0, .slice none 0 0, .int .i64 0]) 3 40 Try.underlying44 info83 rfl (by omega) (by omega) w2.heap.size (.slice (some ⟨w2.heap.size, 0, none⟩) 0 0) 0 [] rfl hown0 _ _ _ (rcells fs1) rfl (by first | rfl | exact hnl) (by first | (intro e; cases e; done) | (intro _; rfl)) (by rintro ad e j u hu; cases e; rw [addr_add, World.cell?_of_block (mA.block _ hlblt (fun h => h))]; simpa using hp1 j u hu) hone1 (by omega) hszA ?_; intro v1 w3 hown1 hg1 hb1 hn1; have m3 := mA.grown hg1 (fun k hk => .inr (hown0.lt k hk).1); rw [Nat.zero_add, List.nil_append] at hown1)
            have ccm3 := (World.cell?_of_block (m3.block r hrlt (fun h => h)) (a := ⟨r, 0, none⟩)).trans c0
            refine nf_cut (JH.cons ccm3 (JH.one ccm3)) ?_
            go_wp2_with fail
            have m4 : Mod Nil w2 (w3.alloc (.cells #[.int .i64 n, .slice none 0 0, .int .i64 0] 83 (0, 0))) := m3.alloc _
            have ccm4 := (World.cell?_of_block (m4.block r hrlt (fun h => h)) (a := ⟨r, 0, none⟩)).trans c0
            refine nf_cut (JH.cons ccm4 (JH.one ccm4)) ?_
            have hS4 : (w3.alloc (.cells #[.int .i64 n, .slice none 0 0, .int .i64 0] 83 (0, 0))).heap[w3.heap.size]? = some (.cells #[.int .i64 n, .slice none 0 0, .int .i64 0] 83 (0, 0)) := heap_new w3 _
            have hown1b : (w3.alloc (.cells #[.int .i64 n, .slice none 0 0, .int .i64 0] 83 (0, 0))).ownsRow w2.heap.size 83 3 v1 fs1.length (rcells fs1) := own_kept hown1 ((Mod.refl Nil w3).alloc _) (fun _ _ h => h)
            have hnew2 : ∀ ad, some (⟨w3.heap.size, 0, none⟩ : Addr) = some ad → ∀ j u, [Value.int .i64 n, .slice none 0 0, .int .i64 0][j]? = some u → (w3.alloc (.cells #[.int .i64 n, .slice none 0 0, .int .i64 0] 83 (0, 0))).cell? (ad.add j) = some u := by
              rintro ad e j u hu
              cases e
              rw [addr_add, Nat.zero_add]
              match j, hu with
              | 0, hu => cases hu; exact heap_cell hS4 0
              | 1, hu => cases hu; exact heap_cell hS4 1
              | 2, hu => cases hu; exact heap_cell hS4 2
            have hsz4 := m4.size
            go_wp2_with (at_builtin; refine wp_append rfl _ _ 44 83 rfl (.agg #[.int .i64 0, .slice none 0 0, .int .i64 0]) 3 40 Try.underlying44 info83 rfl (by omega) (by omega) w2.heap.size v1 fs1.length (rcells fs1) rfl hown1b (some ⟨w3.heap.size, 0, none⟩) 1 1 [.int .i64 n, .slice none 0 0, .int .i64 0] rfl rfl (fun e => by cases e) hnew2 (by intro u hu; simp only [List.mem_cons, List.not_mem_nil, or_false] at hu; rcases hu with rfl | rfl | rfl <;> rfl) (by omega) hsz4 ?_; intro v2 w5 hown2 hg2 hb2 hn2; have m5 := m4.grown hg2 (fun k hk => .inr (hown1b.lt k hk).1))
            have ccm5 := (World.cell?_of_block (m5.block r hrlt (fun h => h)) (a := ⟨r, 0, none⟩)).trans c0
            refine nf_cut (JH.cons ccm5 (JH.one ccm5)) ?_
            have hsz5 := m5.size
            go_wp2_with (at_builtin; refine wp_append rfl _ _ 44 83 rfl (.agg #[.int .i64 0, .slice none 0 0, .int .i64 0]) 3 40 Try.underlying44 info83 rfl (by omega) (by omega) w2.heap.size v2 (fs1.length + 1) (rcells fs1 ++ [.int .i64 n, .slice none 0 0, .int .i64 0]) rfl hown2 _ _ _ (rcells ([] : List RF)) rfl (by first | rfl | (rw [rcells_length]; done) | (rw [rcells_length]; omega)) (by first | (intro e; cases e; done) | (intro _; rfl)) (by intro ad e j u hu; simp [rcells] at hu) hone2 (by omega) hsz5 ?_; intro v3 w6 hown3 hg3 hb3 hn3; obtain ⟨A4, x4, rfl, _⟩ := own_form hown3; have m6 := m5.grown hg3 (fun k hk => .inr (hown2.lt k hk).1); have z0' := (World.frozen?_of_block (m6.block r hrlt (fun h => h)) (a := ⟨r, 0, none⟩)).trans z0)
            have ccm6 := (World.cell?_of_block (m6.block r hrlt (fun h => h)) (a := ⟨r, 0, none⟩)).trans c0
            refine nf_cut (JH.cons ccm6 (JH.one ccm6)) ?_
            go_wp2_with fail
            refine nf_last (by kernel_rfl) ⟨rfl, rfl, trivial⟩ ?_
            go_wp2_with fail
            go_meet
            case rel =>
              refine ⟨rfl, _, rnew_done H2.out ⟨nr1, nr2⟩ l1 l2 m6 ?_⟩
              simpa [rcells, RF.cells, fz] using hown3
          · have HE : Bef ord 1 11 ∧ Bef ord 11 8 := ⟨b1, b2⟩
            refine order23B [0, 2, 0, 0, 0, 3, 0, 0, 2, 0, 0, 2, 2, 0, 0, 0, 3, 0, 0, 2, 0, 0, 2] [2, 3, 7, 1, 7] [(1, 11), (11, 8)] [⟨5, 44, .tmp 33, ⟨r, 0, none⟩, .slice (some ⟨lb, 0, none⟩) fs1.length fs1.length⟩, ⟨16, 44, .tmp 44, ⟨r, 0, none⟩, .slice (some ⟨lb, 0, none⟩) fs1.length fs1.length⟩] (by kernel_rfl) (JH.cons (w := w2.drew) c0 (JH.one (w := w2.drew) c0)) hord (by simpa using HE) ?_
            simp only [wpCut, List.take_succ_cons, List.take_zero, List.drop_succ_cons, List.drop_zero]
            go_wp2_with fail
            have m1 : Mod Nil w2 (w2.alloc (.cells #[] 83 (0, 0))).drew := ((Mod.refl Nil w2).alloc _).drew
            have ccm1 := (World.cell?_of_block (m1.block r hrlt (fun h => h)) (a := ⟨r, 0, none⟩)).trans c0
            refine nf_cut (JH.cons ccm1 (JH.one ccm1)) ?_
            go_wp2_with fail
            have mA : Mod Nil w2 ((w2.alloc (.cells #[] 83 (0, 0))).alloc (.cells #[.int .i64 n, .slice none 0 0, .int .i64 0] 83 (0, 0))).drew := (((Mod.refl Nil w2).alloc _).alloc _).drew
            have ccmA := (World.cell?_of_block (mA.block r hrlt (fun h => h)) (a := ⟨r, 0, none⟩)).trans c0
            refine nf_cut (JH.cons ccmA (JH.one ccmA)) ?_
            have hE0 : (((w2.alloc (.cells #[] 83 (0, 0))).alloc (.cells #[.int .i64 n, .slice none 0 0, .int .i64 0] 83 (0, 0))).drew).heap[w2.heap.size]? = some (.cells #[] 83 (0, 0)) := heap_alloc (heap_new w2 _) _
            have hSA : (((w2.alloc (.cells #[] 83 (0, 0))).alloc (.cells #[.int .i64 n, .slice none 0 0, .int .i64 0] 83 (0, 0))).drew).heap[w2.heap.size + 1]? = some (.cells #[.int .i64 n, .slice none 0 0, .int .i64 0] 83 (0, 0)) := by have := heap_new (w2.alloc (.cells #[] 83 (0, 0))) (.cells #[.int .i64 n, .slice none 0 0, .int .i64 0] 83 (0, 0)); rwa [World.size_alloc] at this
            have hown0 : (((w2.alloc (.cells #[] 83 (0, 0))).alloc (.cells #[.int .i64 n, .slice none 0 0, .int .i64 0] 83 (0, 0))).drew).ownsRow w2.heap.size 83 3 (.slice (some ⟨w2.heap.size, 0, none⟩) 0 0) 0 [] := ⟨rfl, .inr ⟨_, 0, #[], rfl, by omega, hE0, Nat.le_refl _, by decide, rfl, rfl⟩⟩
            have hszA := mA.size
            go_wp2_with (at_builtin; refine wp_append rfl _ _ 44 83 rfl (.agg #[.int .i64 0, .slice none 0 0, .int .i64 0]) 3 40 Try.underlying44 info83 rfl (by omega) (by omega) w2.heap.size (.slice (some ⟨w2.heap.size, 0, none⟩) 0 0) 0 [] rfl hown0 _ _ _ (rcells fs1) rfl (by first | rfl | exact hnl) (by first | (intro e; cases e; done) | (intro _; rfl)) (by rintro ad e j u hu; cases e; rw [addr_add, World.cell?_of_block (mA.block _ hlblt (fun h => h))]; simpa using hp1 j u hu) hone1 (by omega) hszA ?_; intro v1 w3 hown1 hg1 hb1 hn1; have m3 := mA.grown hg1 (fun k hk => .inr (hown0.lt k hk).1); rw [Nat.zero_add, List.nil_append] at hown1)
            have ccm3 := (World.cell?_of_block (m3.block r hrlt (fun h => h)) (a := ⟨r, 0, none⟩)).trans c0
            refine nf_cut (JH.cons ccm3 (JH.one ccm3)) ?_
            have m4 := m3
            have hS4 : w3.heap[(w2.heap.size + 1)]? = some (.cells #[.int .i64 n, .slice none 0 0, .int .i64 0] 83 (0, 0)) := (hg1.block _ (heap_lt hSA) (by simp [Value.ownBlock])).trans hSA
            have hown1b : w3.ownsRow w2.heap.size 83 3 v1 fs1.length (rcells fs1) := hown1
            have hnew2 : ∀ ad, some (⟨(w2.heap.size + 1), 0, none⟩ : Addr) = some ad → ∀ j u, [Value.int .i64 n, .slice none 0 0, .int .i64 0][j]? = some u → w3.cell? (ad.add j) = some u := by
              rintro ad e j u hu
              cases e
              rw [addr_add, Nat.zero_add]
              match j, hu with
              | 0, hu => cases hu; exact heap_cell hS4 0
              | 1, hu => cases hu; exact heap_cell hS4 1
              | 2, hu => cases hu; exact heap_cell hS4 2
            have hsz4 := m4.size
            go_wp2_with (at_builtin; refine wp_append rfl _ _ 44 83 rfl (.agg #[.int .i64 0, .slice none 0 0, .int .i64 0]) 3 40 Try.underlying44 info83 rfl (by omega) (by omega) w2.heap.size v1 fs1.length (rcells fs1) rfl hown1b (some ⟨(w2.heap.size + 1), 0, none⟩) 1 1 [.int .i64 n, .slice none 0 0, .int .i64 0] rfl rfl (fun e => by cases e) hnew2 (by intro u hu; simp only [List.mem_cons, List.not_mem_nil, or_false] at hu; rcases hu with rfl | rfl | rfl <;> rfl) (by omega) hsz4 ?_; intro v2 w5 hown2 hg2 hb2 hn2; have m5 := m4.grown hg2 (fun k hk => .inr (hown1b.lt k hk).1))
            have ccm5 := (World.cell?_of_block (m5.block r hrlt (fun h => h)) (a := ⟨r, 0, none⟩)).trans c0
            refine nf_cut (JH.cons ccm5 (JH.one ccm5)) ?_
            have hsz5 := m5.size
            go_wp2_with (at_builtin; refine wp_append rfl _ _ 44 83 rfl (.agg #[.int .i64 0, .slice none 0 0, .int .i64 0]) 3 40 Try.underlying44 info83 rfl (by omega) (by omega) w2.heap.size v2 (fs1.length + 1) (rcells fs1 ++ [.int .i64 n, .slice none 0 0, .int .i64 0]) rfl hown2 _ _ _ (rcells ([] : List RF)) rfl (by first | rfl | (rw [rcells_length]; done) | (rw [rcells_length]; omega)) (by first | (intro e; cases e; done) | (intro _; rfl)) (by intro ad e j u hu; simp [rcells] at hu) hone2 (by omega) hsz5 ?_; intro v3 w6 hown3 hg3 hb3 hn3; obtain ⟨A4, x4, rfl, _⟩ := own_form hown3; have m6 := m5.grown hg3 (fun k hk => .inr (hown2.lt k hk).1); have z0' := (World.frozen?_of_block (m6.block r hrlt (fun h => h)) (a := ⟨r, 0, none⟩)).trans z0)
            have ccm6 := (World.cell?_of_block (m6.block r hrlt (fun h => h)) (a := ⟨r, 0, none⟩)).trans c0
            refine nf_cut (JH.cons ccm6 (JH.one ccm6)) ?_
            go_wp2_with fail
            refine nf_last (by kernel_rfl) ⟨rfl, rfl, trivial⟩ ?_
            go_wp2_with fail
            go_meet
            case rel =>
              refine ⟨rfl, _, rnew_done H2.out ⟨nr1, nr2⟩ l1 l2 m6 ?_⟩
              simpa [rcells, RF.cells, fz] using hown3
        · have HE : Bef ord 11 1 ∧ Bef ord 11 8 := ⟨b1, bef_trans hord.nd b1 b18⟩
          refine order23A [0, 2, 0, 0, 0, 3, 0, 0, 2, 0, 0, 2, 2, 0, 0, 0, 3, 0, 0, 2, 0, 0, 2] [3, 2, 7, 1, 7] [(11, 1), (11, 8)] [⟨5, 44, .tmp 33, ⟨r, 0, none⟩, .slice (some ⟨lb, 0, none⟩) fs1.length fs1.length⟩, ⟨16, 44, .tmp 44, ⟨r, 0, none⟩, .slice (some ⟨lb, 0, none⟩) fs1.length fs1.length⟩] (by kernel_rfl) (JH.cons (w := w2.drew) c0 (JH.one (w := w2.drew) c0)) hord (by simpa using HE) ?_
          simp only [wpCut, List.take_succ_cons, List.take_zero, List.drop_succ_cons, List.drop_zero]
          go_wp2_with fail
          have m1 : Mod Nil w2 (w2.alloc (.cells #[.int .i64 n, .slice none 0 0, .int .i64 0] 83 (0, 0))).drew := ((Mod.refl Nil w2).alloc _).drew
          have ccm1 := (World.cell?_of_block (m1.block r hrlt (fun h => h)) (a := ⟨r, 0, none⟩)).trans c0
          refine nf_cut (JH.cons ccm1 (JH.one ccm1)) ?_
          go_wp2_with fail
          have mA : Mod Nil w2 ((w2.alloc (.cells #[.int .i64 n, .slice none 0 0, .int .i64 0] 83 (0, 0))).alloc (.cells #[] 83 (0, 0))).drew := (((Mod.refl Nil w2).alloc _).alloc _).drew
          have ccmA := (World.cell?_of_block (mA.block r hrlt (fun h => h)) (a := ⟨r, 0, none⟩)).trans c0
          refine nf_cut (JH.cons ccmA (JH.one ccmA)) ?_
          have hE0 : (((w2.alloc (.cells #[.int .i64 n, .slice none 0 0, .int .i64 0] 83 (0, 0))).alloc (.cells #[] 83 (0, 0))).drew).heap[w2.heap.size + 1]? = some (.cells #[] 83 (0, 0)) := by have := heap_new (w2.alloc (.cells #[.int .i64 n, .slice none 0 0, .int .i64 0] 83 (0, 0))) (.cells #[] 83 (0, 0)); rwa [World.size_alloc] at this
          have hSA : (((w2.alloc (.cells #[.int .i64 n, .slice none 0 0, .int .i64 0] 83 (0, 0))).alloc (.cells #[] 83 (0, 0))).drew).heap[w2.heap.size]? = some (.cells #[.int .i64 n, .slice none 0 0, .int .i64 0] 83 (0, 0)) := heap_alloc (heap_new w2 _) _
          have hown0 : (((w2.alloc (.cells #[.int .i64 n, .slice none 0 0, .int .i64 0] 83 (0, 0))).alloc (.cells #[] 83 (0, 0))).drew).ownsRow w2.heap.size 83 3 (.slice (some ⟨(w2.heap.size + 1), 0, none⟩) 0 0) 0 [] := ⟨rfl, .inr ⟨_, 0, #[], rfl, by omega, hE0, Nat.le_refl _, by decide, rfl, rfl⟩⟩
          have hszA := mA.size
          go_wp2_with (at_builtin; refine wp_append rfl _ _ 44 83 rfl (.agg #[.int .i64 0, .slice none 0 0, .int .i64 0]) 3 40 Try.underlying44 info83 rfl (by omega) (by omega) w2.heap.size (.slice (some ⟨(w2.heap.size + 1), 0, none⟩) 0 0) 0 [] rfl hown0 _ _ _ (rcells fs1) rfl (by first | rfl | exact hnl) (by first | (intro e; cases e; done) | (intro _; rfl)) (by rintro ad e j u hu; cases e; rw [addr_add, World.cell?_of_block (mA.block _ hlblt (fun h => h))]; simpa using hp1 j u hu) hone1 (by omega) hszA ?_; intro v1 w3 hown1 hg1 hb1 hn1; have m3 := mA.grown hg1 (fun k hk => .inr (hown0.lt k hk).1); rw [Nat.zero_add, List.nil_append] at hown1)
          have ccm3 := (World.cell?_of_block (m3.block r hrlt (fun h => h)) (a := ⟨r, 0, none⟩)).trans c0
          refine nf_cut (JH.cons ccm3 (JH.one ccm3)) ?_
          have m4 := m3
          have hS4 : w3.heap[w2.heap.size]? = some (.cells #[.int .i64 n, .slice none 0 0, .int .i64 0] 83 (0, 0)) := (hg1.block _ (heap_lt hSA) (by simp [Value.ownBlock])).trans hSA
          have hown1b : w3.ownsRow w2.heap.size 83 3 v1 fs1.length (rcells fs1) := hown1
          have hnew2 : ∀ ad, some (⟨w2.heap.size, 0, none⟩ : Addr) = some ad → ∀ j u, [Value.int .i64 n, .slice none 0 0, .int .i64 0][j]? = some u → w3.cell? (ad.add j) = some u := by
            rintro ad e j u hu
            cases e
            rw [addr_add, Nat.zero_add]
            match j, hu with
            | 0, hu => cases hu; exact heap_cell hS4 0
            | 1, hu => cases hu; exact heap_cell hS4 1
            | 2, hu => cases hu; exact heap_cell hS4 2
          have hsz4 := m4.size
          go_wp2_with (at_builtin; refine wp_append rfl _ _ 44 83 rfl (.agg #[.int .i64 0, .slice none 0 0, .int .i64 0]) 3 40 Try.underlying44 info83 rfl (by omega) (by omega) w2.heap.size v1 fs1.length (rcells fs1) rfl hown1b (some ⟨w2.heap.size, 0, none⟩) 1 1 [.int .i64 n, .slice none 0 0, .int .i64 0] rfl rfl (fun e => by cases e) hnew2 (by intro u hu; simp only [List.mem_cons, List.not_mem_nil, or_false] at hu; rcases hu with rfl | rfl | rfl <;> rfl) (by omega) hsz4 ?_; intro v2 w5 hown2 hg2 hb2 hn2; have m5 := m4.grown hg2 (fun k hk => .inr (hown1b.lt k hk).1))
          have ccm5 := (World.cell?_of_block (m5.block r hrlt (fun h => h)) (a := ⟨r, 0, none⟩)).trans c0
          refine nf_cut (JH.cons ccm5 (JH.one ccm5)) ?_
          have hsz5 := m5.size
          go_wp2_with (at_builtin; refine wp_append rfl _ _ 44 83 rfl (.agg #[.int .i64 0, .slice none 0 0, .int .i64 0]) 3 40 Try.underlying44 info83 rfl (by omega) (by omega) w2.heap.size v2 (fs1.length + 1) (rcells fs1 ++ [.int .i64 n, .slice none 0 0, .int .i64 0]) rfl hown2 _ _ _ (rcells ([] : List RF)) rfl (by first | rfl | (rw [rcells_length]; done) | (rw [rcells_length]; omega)) (by first | (intro e; cases e; done) | (intro _; rfl)) (by intro ad e j u hu; simp [rcells] at hu) hone2 (by omega) hsz5 ?_; intro v3 w6 hown3 hg3 hb3 hn3; obtain ⟨A4, x4, rfl, _⟩ := own_form hown3; have m6 := m5.grown hg3 (fun k hk => .inr (hown2.lt k hk).1); have z0' := (World.frozen?_of_block (m6.block r hrlt (fun h => h)) (a := ⟨r, 0, none⟩)).trans z0)
          have ccm6 := (World.cell?_of_block (m6.block r hrlt (fun h => h)) (a := ⟨r, 0, none⟩)).trans c0
          refine nf_cut (JH.cons ccm6 (JH.one ccm6)) ?_
          go_wp2_with fail
          refine nf_last (by kernel_rfl) ⟨rfl, rfl, trivial⟩ ?_
          go_wp2_with fail
          go_meet
          case rel =>
            refine ⟨rfl, _, rnew_done H2.out ⟨nr1, nr2⟩ l1 l2 m6 ?_⟩
            simpa [rcells, RF.cells, fz] using hown3
      · have hcc' : fs1.length < c := by omega
        rcases bef_total m1' m11' (by decide) with b1 | b1
        · rcases bef_total m8' m11' (by decide) with b2 | b2
          · have HE : Bef ord 1 11 ∧ Bef ord 8 11 := ⟨b1, b2⟩
            refine order23C [0, 2, 0, 0, 0, 3, 0, 0, 2, 0, 0, 2, 2, 0, 0, 0, 3, 0, 0, 2, 0, 0, 2] [2, 7, 3, 1, 7] [(1, 11), (8, 11)] [⟨5, 44, .tmp 33, ⟨r, 0, none⟩, .slice (some ⟨lb, 0, none⟩) (fs1.length + fs2.length) c⟩, ⟨16, 44, .tmp 44, ⟨r, 0, none⟩, .slice (some ⟨lb, 0, none⟩) (fs1.length + fs2.length) c⟩] (by kernel_rfl) (JH.cons (w := w2.drew) c0 (JH.one (w := w2.drew) c0)) hord (by simpa using HE) ?_
            simp only [wpCut, List.take_succ_cons, List.take_zero, List.drop_succ_cons, List.drop_zero]
            go_wp2_with fail
            have mA : Mod Nil w2 (w2.alloc (.cells #[] 83 (0, 0))).drew := ((Mod.refl Nil w2).alloc _).drew
            have ccmA := (World.cell?_of_block (mA.block r hrlt (fun h => h)) (a := ⟨r, 0, none⟩)).trans c0
            refine nf_cut (JH.cons ccmA (JH.one ccmA)) ?_
            have hE0 : ((w2.alloc (.cells #[] 83 (0, 0))).drew).heap[w2.heap.size]? = some (.cells #[] 83 (0, 0)) := heap_new w2 _
            have hown0 : ((w2.alloc (.cells #[] 83 (0, 0))).drew).ownsRow w2.heap.size 83 3 (.slice (some ⟨w2.heap.size, 0, none⟩) 0 0) 0 [] := ⟨rfl, .inr ⟨_, 0, #[], rfl, by omega, hE0, Nat.le_refl _, by decide, rfl, rfl⟩⟩
            have hszA := mA.size
            go_wp2_with (at_builtin; refine wp_append rfl _ _ 44 83 rfl (.agg #[.int .i64 0, .slice none 0 0, .int .i64 0]) 3 40 Try.underlying44 info83 rfl (by omega) (by omega) w2.heap.size (.slice (some ⟨w2.heap.size, 0, none⟩) 0 0) 0 [] rfl hown0 _ _ _ (rcells fs1) rfl (by first | rfl | exact hnl) (by first | (intro e; cases e; done) | (intro _; rfl)) (by rintro ad e j u hu; cases e; rw [addr_add, World.cell?_of_block (mA.block _ hlblt (fun h => h))]; simpa using hp1 j u hu) hone1 (by omega) hszA ?_; intro v1 w3 hown1 hg1 hb1 hn1; have m3 := mA.grown hg1 (fun k hk => .inr (hown0.lt k hk).1); rw [Nat.zero_add, List.nil_append] at hown1)
            have ccm3 := (World.cell?_of_block (m3.block r hrlt (fun h => h)) (a := ⟨r, 0, none⟩)).trans c0
            refine nf_cut (JH.cons ccm3 (JH.one ccm3)) ?_
            go_wp2_with fail
            have m4 : Mod Nil w2 (w3.alloc (.cells #[.int .i64 n, .slice none 0 0, .int .i64 0] 83 (0, 0))) := m3.alloc _
            have ccm4 := (World.cell?_of_block (m4.block r hrlt (fun h => h)) (a := ⟨r, 0, none⟩)).trans c0
            refine nf_cut (JH.cons ccm4 (JH.one ccm4)) ?_
            have hS4 : (w3.alloc (.cells #[.int .i64 n, .slice none 0 0, .int .i64 0] 83 (0, 0))).heap[w3.heap.size]? = some (.cells #[.int .i64 n, .slice none 0 0, .int .i64 0] 83 (0, 0)) := heap_new w3 _
            have hown1b : (w3.alloc (.cells #[.int .i64 n, .slice none 0 0, .int .i64 0] 83 (0, 0))).ownsRow w2.heap.size 83 3 v1 fs1.length (rcells fs1) := own_kept hown1 ((Mod.refl Nil w3).alloc _) (fun _ _ h => h)
            have hnew2 : ∀ ad, some (⟨w3.heap.size, 0, none⟩ : Addr) = some ad → ∀ j u, [Value.int .i64 n, .slice none 0 0, .int .i64 0][j]? = some u → (w3.alloc (.cells #[.int .i64 n, .slice none 0 0, .int .i64 0] 83 (0, 0))).cell? (ad.add j) = some u := by
              rintro ad e j u hu
              cases e
              rw [addr_add, Nat.zero_add]
              match j, hu with
              | 0, hu => cases hu; exact heap_cell hS4 0
              | 1, hu => cases hu; exact heap_cell hS4 1
              | 2, hu => cases hu; exact heap_cell hS4 2
            have hsz4 := m4.size
            go_wp2_with (at_builtin; refine wp_append rfl _ _ 44 83 rfl (.agg #[.int .i64 0, .slice none 0 0, .int .i64 0]) 3 40 Try.underlying44 info83 rfl (by omega) (by omega) w2.heap.size v1 fs1.length (rcells fs1) rfl hown1b (some ⟨w3.heap.size, 0, none⟩) 1 1 [.int .i64 n, .slice none 0 0, .int .i64 0] rfl rfl (fun e => by cases e) hnew2 (by intro u hu; simp only [List.mem_cons, List.not_mem_nil, or_false] at hu; rcases hu with rfl | rfl | rfl <;> rfl) (by omega) hsz4 ?_; intro v2 w5 hown2 hg2 hb2 hn2; have m5 := m4.grown hg2 (fun k hk => .inr (hown1b.lt k hk).1))
            have ccm5 := (World.cell?_of_block (m5.block r hrlt (fun h => h)) (a := ⟨r, 0, none⟩)).trans c0
            refine nf_cut (JH.cons ccm5 (JH.one ccm5)) ?_
            have hsz5 := m5.size
            go_wp2_with (at_builtin; refine wp_append rfl _ _ 44 83 rfl (.agg #[.int .i64 0, .slice none 0 0, .int .i64 0]) 3 40 Try.underlying44 info83 rfl (by omega) (by omega) w2.heap.size v2 (fs1.length + 1) (rcells fs1 ++ [.int .i64 n, .slice none 0 0, .int .i64 0]) rfl hown2 _ _ _ (rcells fs2) rfl (by first | rfl | (rw [rcells_length]; done) | (rw [rcells_length]; omega)) (by first | (intro e; cases e; done) | (intro _; rfl)) (by rintro ad e j u hu; cases e; rw [addr_add, World.cell?_of_block (m5.block _ hlblt (fun h => h))]; simpa using hp2 j u hu) hone2 (by omega) hsz5 ?_; intro v3 w6 hown3 hg3 hb3 hn3; obtain ⟨A4, x4, rfl, _⟩ := own_form hown3; have m6 := m5.grown hg3 (fun k hk => .inr (hown2.lt k hk).1); have z0' := (World.frozen?_of_block (m6.block r hrlt (fun h => h)) (a := ⟨r, 0, none⟩)).trans z0)
            have ccm6 := (World.cell?_of_block (m6.block r hrlt (fun h => h)) (a := ⟨r, 0, none⟩)).trans c0
            refine nf_cut (JH.cons ccm6 (JH.one ccm6)) ?_
            go_wp2_with fail
            refine nf_last (by kernel_rfl) ⟨rfl, rfl, trivial⟩ ?_
            go_wp2_with fail
            go_meet
            case rel =>
              refine ⟨rfl, _, rnew_done H2.out ⟨nr1, nr2⟩ l1 l2 m6 ?_⟩
              have e : fs1.length + 1 + fs2.length = (fs1 ++ fz n :: fs2).length := by simp only [List.length_append, List.length_cons]; omega
              have e2 : rcells (fs1 ++ fz n :: fs2) = rcells fs1 ++ [.int .i64 n, .slice none 0 0, .int .i64 0] ++ rcells fs2 := by rw [rcells_app, rcells_cons, List.append_assoc]; rfl
              rw [e2, ← e]
              exact hown3
          · have HE : Bef ord 1 11 ∧ Bef ord 11 8 := ⟨b1, b2⟩
            refine order23B [0, 2, 0, 0, 0, 3, 0, 0, 2, 0, 0, 2, 2, 0, 0, 0, 3, 0, 0, 2, 0, 0, 2] [2, 3, 7, 1, 7] [(1, 11), (11, 8)] [⟨5, 44, .tmp 33, ⟨r, 0, none⟩, .slice (some ⟨lb, 0, none⟩) (fs1.length + fs2.length) c⟩, ⟨16, 44, .tmp 44, ⟨r, 0, none⟩, .slice (some ⟨lb, 0, none⟩) (fs1.length + fs2.length) c⟩] (by kernel_rfl) (JH.cons (w := w2.drew) c0 (JH.one (w := w2.drew) c0)) hord (by simpa using HE) ?_
            simp only [wpCut, List.take_succ_cons, List.take_zero, List.drop_succ_cons, List.drop_zero]
            go_wp2_with fail
            have m1 : Mod Nil w2 (w2.alloc (.cells #[] 83 (0, 0))).drew := ((Mod.refl Nil w2).alloc _).drew
            have ccm1 := (World.cell?_of_block (m1.block r hrlt (fun h => h)) (a := ⟨r, 0, none⟩)).trans c0
            refine nf_cut (JH.cons ccm1 (JH.one ccm1)) ?_
            go_wp2_with fail
            have mA : Mod Nil w2 ((w2.alloc (.cells #[] 83 (0, 0))).alloc (.cells #[.int .i64 n, .slice none 0 0, .int .i64 0] 83 (0, 0))).drew := (((Mod.refl Nil w2).alloc _).alloc _).drew
            have ccmA := (World.cell?_of_block (mA.block r hrlt (fun h => h)) (a := ⟨r, 0, none⟩)).trans c0
            refine nf_cut (JH.cons ccmA (JH.one ccmA)) ?_
            have hE0 : (((w2.alloc (.cells #[] 83 (0, 0))).alloc (.cells #[.int .i64 n, .slice none 0 0, .int .i64 0] 83 (0, 0))).drew).heap[w2.heap.size]? = some (.cells #[] 83 (0, 0)) := heap_alloc (heap_new w2 _) _
            have hSA : (((w2.alloc (.cells #[] 83 (0, 0))).alloc (.cells #[.int .i64 n, .slice none 0 0, .int .i64 0] 83 (0, 0))).drew).heap[w2.heap.size + 1]? = some (.cells #[.int .i64 n, .slice none 0 0, .int .i64 0] 83 (0, 0)) := by have := heap_new (w2.alloc (.cells #[] 83 (0, 0))) (.cells #[.int .i64 n, .slice none 0 0, .int .i64 0] 83 (0, 0)); rwa [World.size_alloc] at this
            have hown0 : (((w2.alloc (.cells #[] 83 (0, 0))).alloc (.cells #[.int .i64 n, .slice none 0 0, .int .i64 0] 83 (0, 0))).drew).ownsRow w2.heap.size 83 3 (.slice (some ⟨w2.heap.size, 0, none⟩) 0 0) 0 [] := ⟨rfl, .inr ⟨_, 0, #[], rfl, by omega, hE0, Nat.le_refl _, by decide, rfl, rfl⟩⟩
            have hszA := mA.size
            go_wp2_with (at_builtin; refine wp_append rfl _ _ 44 83 rfl (.agg #[.int .i64 0, .slice none 0 0, .int .i64 0]) 3 40 Try.underlying44 info83 rfl (by omega) (by omega) w2.heap.size (.slice (some ⟨w2.heap.size, 0, none⟩) 0 0) 0 [] rfl hown0 _ _ _ (rcells fs1) rfl (by first | rfl | exact hnl) (by first | (intro e; cases e; done) | (intro _; rfl)) (by rintro ad e j u hu; cases e; rw [addr_add, World.cell?_of_block (mA.block _ hlblt (fun h => h))]; simpa using hp1 j u hu) hone1 (by omega) hszA ?_; intro v1 w3 hown1 hg1 hb1 hn1; have m3 := mA.grown hg1 (fun k hk => .inr (hown0.lt k hk).1); rw [Nat.zero_add, List.nil_append] at hown1)
            have ccm3 := (World.cell?_of_block (m3.block r hrlt (fun h => h)) (a := ⟨r, 0, none⟩)).trans c0
            refine nf_cut (JH.cons ccm3 (JH.one ccm3)) ?_
            have m4 := m3
            have hS4 : w3.heap[(w2.heap.size + 1)]? = some (.cells #[.int .i64 n, .slice none 0 0, .int .i64 0] 83 (0, 0)) := (hg1.block _ (heap_lt hSA) (by simp [Value.ownBlock])).trans hSA
            have hown1b : w3.ownsRow w2.heap.size 83 3 v1 fs1.length (rcells fs1) := hown1
            have hnew2 : ∀ ad, some (⟨(w2.heap.size + 1), 0, none⟩ : Addr) = some ad → ∀ j u, [Value.int .i64 n, .slice none 0 0, .int .i64 0][j]? = some u → w3.cell? (ad.add j) = some u := by
              rintro ad e j u hu
              cases e
              rw [addr_add, Nat.zero_add]
              match j, hu with
              | 0, hu => cases hu; exact heap_cell hS4 0
              | 1, hu => cases hu; exact heap_cell hS4 1
              | 2, hu => cases hu; exact heap_cell hS4 2
            have hsz4 := m4.size
            go_wp2_with (at_builtin; refine wp_append rfl _ _ 44 83 rfl (.agg #[.int .i64 0, .slice none 0 0, .int .i64 0]) 3 40 Try.underlying44 info83 rfl (by omega) (by omega) w2.heap.size v1 fs1.length (rcells fs1) rfl hown1b (some ⟨(w2.heap.size + 1), 0, none⟩) 1 1 [.int .i64 n, .slice none 0 0, .int .i64 0] rfl rfl (fun e => by cases e) hnew2 (by intro u hu; simp only [List.mem_cons, List.not_mem_nil, or_false] at hu; rcases hu with rfl | rfl | rfl <;> rfl) (by omega) hsz4 ?_; intro v2 w5 hown2 hg2 hb2 hn2; have m5 := m4.grown hg2 (fun k hk => .inr (hown1b.lt k hk).1))
            have ccm5 := (World.cell?_of_block (m5.block r hrlt (fun h => h)) (a := ⟨r, 0, none⟩)).trans c0
            refine nf_cut (JH.cons ccm5 (JH.one ccm5)) ?_
            have hsz5 := m5.size
            go_wp2_with (at_builtin; refine wp_append rfl _ _ 44 83 rfl (.agg #[.int .i64 0, .slice none 0 0, .int .i64 0]) 3 40 Try.underlying44 info83 rfl (by omega) (by omega) w2.heap.size v2 (fs1.length + 1) (rcells fs1 ++ [.int .i64 n, .slice none 0 0, .int .i64 0]) rfl hown2 _ _ _ (rcells fs2) rfl (by first | rfl | (rw [rcells_length]; done) | (rw [rcells_length]; omega)) (by first | (intro e; cases e; done) | (intro _; rfl)) (by rintro ad e j u hu; cases e; rw [addr_add, World.cell?_of_block (m5.block _ hlblt (fun h => h))]; simpa using hp2 j u hu) hone2 (by omega) hsz5 ?_; intro v3 w6 hown3 hg3 hb3 hn3; obtain ⟨A4, x4, rfl, _⟩ := own_form hown3; have m6 := m5.grown hg3 (fun k hk => .inr (hown2.lt k hk).1); have z0' := (World.frozen?_of_block (m6.block r hrlt (fun h => h)) (a := ⟨r, 0, none⟩)).trans z0)
            have ccm6 := (World.cell?_of_block (m6.block r hrlt (fun h => h)) (a := ⟨r, 0, none⟩)).trans c0
            refine nf_cut (JH.cons ccm6 (JH.one ccm6)) ?_
            go_wp2_with fail
            refine nf_last (by kernel_rfl) ⟨rfl, rfl, trivial⟩ ?_
            go_wp2_with fail
            go_meet
            case rel =>
              refine ⟨rfl, _, rnew_done H2.out ⟨nr1, nr2⟩ l1 l2 m6 ?_⟩
              have e : fs1.length + 1 + fs2.length = (fs1 ++ fz n :: fs2).length := by simp only [List.length_append, List.length_cons]; omega
              have e2 : rcells (fs1 ++ fz n :: fs2) = rcells fs1 ++ [.int .i64 n, .slice none 0 0, .int .i64 0] ++ rcells fs2 := by rw [rcells_app, rcells_cons, List.append_assoc]; rfl
              rw [e2, ← e]
              exact hown3
        · have HE : Bef ord 11 1 ∧ Bef ord 11 8 := ⟨b1, bef_trans hord.nd b1 b18⟩
          refine order23A [0, 2, 0, 0, 0, 3, 0, 0, 2, 0, 0, 2, 2, 0, 0, 0, 3, 0, 0, 2, 0, 0, 2] [3, 2, 7, 1, 7] [(11, 1), (11, 8)] [⟨5, 44, .tmp 33, ⟨r, 0, none⟩, .slice (some ⟨lb, 0, none⟩) (fs1.length + fs2.length) c⟩, ⟨16, 44, .tmp 44, ⟨r, 0, none⟩, .slice (some ⟨lb, 0, none⟩) (fs1.length + fs2.length) c⟩] (by kernel_rfl) (JH.cons (w := w2.drew) c0 (JH.one (w := w2.drew) c0)) hord (by simpa using HE) ?_
          simp only [wpCut, List.take_succ_cons, List.take_zero, List.drop_succ_cons, List.drop_zero]
          go_wp2_with fail
          have m1 : Mod Nil w2 (w2.alloc (.cells #[.int .i64 n, .slice none 0 0, .int .i64 0] 83 (0, 0))).drew := ((Mod.refl Nil w2).alloc _).drew
          have ccm1 := (World.cell?_of_block (m1.block r hrlt (fun h => h)) (a := ⟨r, 0, none⟩)).trans c0
          refine nf_cut (JH.cons ccm1 (JH.one ccm1)) ?_
          go_wp2_with fail
          have mA : Mod Nil w2 ((w2.alloc (.cells #[.int .i64 n, .slice none 0 0, .int .i64 0] 83 (0, 0))).alloc (.cells #[] 83 (0, 0))).drew := (((Mod.refl Nil w2).alloc _).alloc _).drew
          have ccmA := (World.cell?_of_block (mA.block r hrlt (fun h => h)) (a := ⟨r, 0, none⟩)).trans c0
          refine nf_cut (JH.cons ccmA (JH.one ccmA)) ?_
          have hE0 : (((w2.alloc (.cells #[.int .i64 n, .slice none 0 0, .int .i64 0] 83 (0, 0))).alloc (.cells #[] 83 (0, 0))).drew).heap[w2.heap.size + 1]? = some (.cells #[] 83 (0, 0)) := by have := heap_new (w2.alloc (.cells #[.int .i64 n, .slice none 0 0, .int .i64 0] 83 (0, 0))) (.cells #[] 83 (0, 0)); rwa [World.size_alloc] at this
          have hSA : (((w2.alloc (.cells #[.int .i64 n, .slice none 0 0, .int .i64 0] 83 (0, 0))).alloc (.cells #[] 83 (0, 0))).drew).heap[w2.heap.size]? = some (.cells #[.int .i64 n, .slice none 0 0, .int .i64 0] 83 (0, 0)) := heap_alloc (heap_new w2 _) _
          have hown0 : (((w2.alloc (.cells #[.int .i64 n, .slice none 0 0, .int .i64 0] 83 (0, 0))).alloc (.cells #[] 83 (0, 0))).drew).ownsRow w2.heap.size 83 3 (.slice (some ⟨(w2.heap.size + 1), 0, none⟩) 0 0) 0 [] := ⟨rfl, .inr ⟨_, 0, #[], rfl, by omega, hE0, Nat.le_refl _, by decide, rfl, rfl⟩⟩
          have hszA := mA.size
          go_wp2_with (at_builtin; refine wp_append rfl _ _ 44 83 rfl (.agg #[.int .i64 0, .slice none 0 0, .int .i64 0]) 3 40 Try.underlying44 info83 rfl (by omega) (by omega) w2.heap.size (.slice (some ⟨(w2.heap.size + 1), 0, none⟩) 0 0) 0 [] rfl hown0 _ _ _ (rcells fs1) rfl (by first | rfl | exact hnl) (by first | (intro e; cases e; done) | (intro _; rfl)) (by rintro ad e j u hu; cases e; rw [addr_add, World.cell?_of_block (mA.block _ hlblt (fun h => h))]; simpa using hp1 j u hu) hone1 (by omega) hszA ?_; intro v1 w3 hown1 hg1 hb1 hn1; have m3 := mA.grown hg1 (fun k hk => .inr (hown0.lt k hk).1); rw [Nat.zero_add, List.nil_append] at hown1)
          have ccm3 := (World.cell?_of_block (m3.block r hrlt (fun h => h)) (a := ⟨r, 0, none⟩)).trans c0
          refine nf_cut (JH.cons ccm3 (JH.one ccm3)) ?_
          have m4 := m3
          have hS4 : w3.heap[w2.heap.size]? = some (.cells #[.int .i64 n, .slice none 0 0, .int .i64 0] 83 (0, 0)) := (hg1.block _ (heap_lt hSA) (by simp [Value.ownBlock])).trans hSA
          have hown1b : w3.ownsRow w2.heap.size 83 3 v1 fs1.length (rcells fs1) := hown1
          have hnew2 : ∀ ad, some (⟨w2.heap.size, 0, none⟩ : Addr) = some ad → ∀ j u, [Value.int .i64 n, .slice none 0 0, .int .i64 0][j]? = some u → w3.cell? (ad.add j) = some u := by
            rintro ad e j u hu
            cases e
            rw [addr_add, Nat.zero_add]
            match j, hu with
            | 0, hu => cases hu; exact heap_cell hS4 0
            | 1, hu => cases hu; exact heap_cell hS4 1
            | 2, hu => cases hu; exact heap_cell hS4 2
          have hsz4 := m4.size
          go_wp2_with (at_builtin; refine wp_append rfl _ _ 44 83 rfl (.agg #[.int .i64 0, .slice none 0 0, .int .i64 0]) 3 40 Try.underlying44 info83 rfl (by omega) (by omega) w2.heap.size v1 fs1.length (rcells fs1) rfl hown1b (some ⟨w2.heap.size, 0, none⟩) 1 1 [.int .i64 n, .slice none 0 0, .int .i64 0] rfl rfl (fun e => by cases e) hnew2 (by intro u hu; simp only [List.mem_cons, List.not_mem_nil, or_false] at hu; rcases hu with rfl | rfl | rfl <;> rfl) (by omega) hsz4 ?_; intro v2 w5 hown2 hg2 hb2 hn2; have m5 := m4.grown hg2 (fun k hk => .inr (hown1b.lt k hk).1))
          have ccm5 := (World.cell?_of_block (m5.block r hrlt (fun h => h)) (a := ⟨r, 0, none⟩)).trans c0
          refine nf_cut (JH.cons ccm5 (JH.one ccm5)) ?_
          have hsz5 := m5.size
          go_wp2_with (at_builtin; refine wp_append rfl _ _ 44 83 rfl (.agg #[.int .i64 0, .slice none 0 0, .int .i64 0]) 3 40 Try.underlying44 info83 rfl (by omega) (by omega) w2.heap.size v2 (fs1.length + 1) (rcells fs1 ++ [.int .i64 n, .slice none 0 0, .int .i64 0]) rfl hown2 _ _ _ (rcells fs2) rfl (by first | rfl | (rw [rcells_length]; done) | (rw [rcells_length]; omega)) (by first | (intro e; cases e; done) | (intro _; rfl)) (by rintro ad e j u hu; cases e; rw [addr_add, World.cell?_of_block (m5.block _ hlblt (fun h => h))]; simpa using hp2 j u hu) hone2 (by omega) hsz5 ?_; intro v3 w6 hown3 hg3 hb3 hn3; obtain ⟨A4, x4, rfl, _⟩ := own_form hown3; have m6 := m5.grown hg3 (fun k hk => .inr (hown2.lt k hk).1); have z0' := (World.frozen?_of_block (m6.block r hrlt (fun h => h)) (a := ⟨r, 0, none⟩)).trans z0)
          have ccm6 := (World.cell?_of_block (m6.block r hrlt (fun h => h)) (a := ⟨r, 0, none⟩)).trans c0
          refine nf_cut (JH.cons ccm6 (JH.one ccm6)) ?_
          go_wp2_with fail
          refine nf_last (by kernel_rfl) ⟨rfl, rfl, trivial⟩ ?_
          go_wp2_with fail
          go_meet
          case rel =>
            refine ⟨rfl, _, rnew_done H2.out ⟨nr1, nr2⟩ l1 l2 m6 ?_⟩
            have e : fs1.length + 1 + fs2.length = (fs1 ++ fz n :: fs2).length := by simp only [List.length_append, List.length_cons]; omega
            have e2 : rcells (fs1 ++ fz n :: fs2) = rcells fs1 ++ [.int .i64 n, .slice none 0 0, .int .i64 0] ++ rcells fs2 := by rw [rcells_app, rcells_cons, List.append_assoc]; rfl
            rw [e2, ← e]
            exact hown3
  case rest =>
    obtain ⟨rfl, lvX, hRX, hmX, hnX⟩ := hcut
    have HX := Lib.hid hRX
    have HMX := Lib.hid hmX
    have hSX := hS2.out.frame (w' := wc) (by decide) fun b hb hlt => hmX.block b hlt (hFlt b hb)
    have HMM := Lib.hid (HM2.out.then hmX)
    clear hRX hmX
    obtain ⟨lb, c, hlv, hcl, k0, k1, k2⟩ := HX.out.at_ (k := fs1.length) (by simp)
    rw [get_mid] at k1
    obtain ⟨A1, x1, hbv, hx1, hSC⟩ := HX.out.bytes (f := (fz n)) (by simp)
    have hcntX := HX.out.count
    have hfit := psum_mem (L := rabs (fs1 ++ (fz n) :: fs2)) (f := (fz n).abs) (by simp [rabs])
    have hroomX := HX.out.room
    rw [gst_free] at hroomX
    have hlb : lvX.ownBlock = some lb := by rw [hlv]; rfl
    have hne : r ≠ lb := fun e => HX.out.ne_l (e ▸ hlb)
    have hrlt : r < wc.heap.size := heap_lt HX.out.st
    have hlblt : lb < wc.heap.size := own_lt HX.out.ls hlb
    have c0 : wc.cell? ⟨r, 0, none⟩ = some lvX := heap_cell HX.out.st 0
    have c4 : wc.cell? ⟨r, 4, none⟩ = some (.int .i64 (gst n s).ops) := heap_cell HX.out.st 4
    have z4 : wc.frozen? ⟨r, 4, none⟩ = false := heap_free HX.out.st 4
    have zl : wc.frozen? ⟨lb, fs1.length * 3 + 1, none⟩ = false := own_frozen HX.out.ls hlb
    rw [hlv] at c0
    rw [hbv, List.length_append] at k1
    have hlen : (fs1 ++ (fz n) :: fs2).length = fs1.length + (fs2.length + 1) := by simp
    rw [hlen] at c0 hcntX hcl
    have hbl : ((fz n).safe ++ (fz n).rest).length + bs.length ≤ 140737488355328 := by
      simp only [PF.sz, RF.abs] at hfit; rw [List.length_append]; omega
    have hbl0 : ([] : List UInt8).length + ((fz n).safe ++ (fz n).rest).length ≤ 140737488355328 := by simp only [List.length_nil]; omega
    have hmA : Mod Nil wc (wc.alloc (.cells #[] 5 (0, 0))).drew := ((Mod.refl Nil wc).alloc _).drew
    have hown0 : (wc.alloc (.cells #[] 5 (0, 0))).drew.ownsRow wc.heap.size 5 1 (.slice (some ⟨wc.heap.size, 0, none⟩) 0 0) ([] : List UInt8).length (bcells []) :=
      ⟨rfl, .inr ⟨wc.heap.size, 0, #[], rfl, Nat.le_refl _, heap_new wc (.cells #[] 5 (0, 0)), Nat.le_refl _, by decide, rfl, rfl⟩⟩
    have hszA := hmA.size
    have hl2 : ((fz n).safe ++ (fz n).rest ++ bs).length = (fz n).safe.length + ((fz n).rest.length + bs.length) := by rw [List.length_append, List.length_append]; omega
    have hR1 := hSC.kept (by decide) hmA (fun _ _ _ h => h)
    have HMA := Lib.hid hmA
    have HSB := Lib.hid hSX
    have HFit := Lib.hid hroomX
    clear hfit hSC hmA hSX hroomX
    go_wp2
    refine wp_held [0, 0, 0, 3, 0, 2, 0, 0, 0, 3, 0, 0, 0, 3, 2, 0, 2, 0, 0, 2] [6, 9, 2] [⟨3, 44, .tmp 53, ⟨r, 0, none⟩, .slice (some ⟨lb, 0, none⟩) (fs1.length + (fs2.length + 1)) c⟩, ⟨9, 44, .tmp 59, ⟨r, 0, none⟩, .slice (some ⟨lb, 0, none⟩) (fs1.length + (fs2.length + 1)) c⟩, ⟨13, 39, .tmp 63, ⟨lb, fs1.length * 3 + 1, none⟩, .slice A1 ((fz n).safe.length + (fz n).rest.length) x1⟩] mixed (by kernel_rfl) (JH.cons c0 (JH.cons c0 (JH.one k1))) ?_
    simp only [wpCut, List.take_succ_cons, List.take_zero, List.drop_succ_cons, List.drop_zero]
    go_wp2_with fail
    have cA := (World.cell?_of_block (HMA.out.block r hrlt (fun h => h)) (a := ⟨r, 0, none⟩)).trans c0
    have kA := (World.cell?_of_block (HMA.out.block lb hlblt (fun h => h)) (a := ⟨lb, fs1.length * 3 + 1, none⟩)).trans k1
    refine nf_cut (JH.cons cA (JH.cons cA (JH.one kA))) ?_
    go_wp2_with (at_builtin; refine wp_append_bytes rfl _ _ 39 5 rfl Try.underlying39 info5 wc.heap.size (.slice (some ⟨wc.heap.size, 0, none⟩) 0 0) [] rfl hown0 _ A1 x1 ((fz n).safe ++ (fz n).rest) _ rfl (by first | rfl | (rw [List.length_append]; done) | (rw [List.length_append]; rfl)) hR1 hbl0 hszA ?_; intro v1 w3 hown1 hg1 hb1 hn1; have hm3 := HMA.out.grown hg1 (fun k hk => .inr (by have := Option.some.inj hk; simp only at this; omega)); have c0' := (World.cell?_of_block (hm3.block r hrlt (fun h => h)) (a := ⟨r, 0, none⟩)).trans c0; have k1' := (World.cell?_of_block (hm3.block lb hlblt (fun h => h)) (a := ⟨lb, fs1.length * 3 + 1, none⟩)).trans k1; have hsz3 := hm3.size; rw [List.nil_append] at hown1; have hR2 := HSB.out.kept (by decide) hm3 (fun _ _ _ h => h); have HM3 := Lib.hid hm3; clear hm3)
    refine nf_cut (JH.cons c0' (JH.cons c0' (JH.one k1'))) ?_
    go_wp2_with (at_builtin; refine wp_append_bytes rfl _ _ 39 5 rfl Try.underlying39 info5 wc.heap.size v1 ((fz n).safe ++ (fz n).rest) rfl hown1 _ Ab cb bs _ rfl rfl hR2 hbl hsz3 ?_; intro v2 w4 hown2 hg2 hb2 hn2; rw [hl2] at hown2; obtain ⟨A4, x4, rfl, _⟩ := own_form hown2; have hm4 := HM3.out.grown hg2 (fun k hk => .inr (hown1.lt k hk).1); have zl' := (World.frozen?_of_block (hm4.block lb hlblt (fun h => h)) (a := ⟨lb, fs1.length * 3 + 1, none⟩)).trans zl; have z4' := (World.frozen?_of_block (hm4.block r hrlt (fun h => h)) (a := ⟨r, 4, none⟩)).trans z4; have c4' := (World.cell?_of_block (hm4.block r hrlt (fun h => h)) (a := ⟨r, 4, none⟩)).trans c4; have c0'' := (World.cell?_of_block (hm4.block r hrlt (fun h => h)) (a := ⟨r, 0, none⟩)).trans c0; have k1'' := (World.cell?_of_block (hm4.block lb hlblt (fun h => h)) (a := ⟨lb, fs1.length * 3 + 1, none⟩)).trans k1; have HM4 := Lib.hid hm4; have HO2 := Lib.hid hown2; clear hm4 hown2)
    refine nf_cut (JH.cons c0'' (JH.cons c0'' (JH.one k1''))) ?_
    have c4'' : ∀ v, (w4.setCell ⟨lb, fs1.length * 3 + 1, none⟩ v).cell? ⟨r, 4, none⟩ = some (.int .i64 (gst n s).ops) := fun v => (World.cell?_setCell_other _ _ _ _ (fun e => hne (congrArg Addr.block e).symm)).trans c4'
    go_wp2_with fail
    refine nf_last (by kernel_rfl) ⟨rfl, rfl, rfl, trivial⟩ ?_
    go_wp2_with fail
    go_ret
    obtain ⟨hRf, hMf⟩ := rapp_done HX.out hlb HM4.out (by rw [hl2]; exact HO2.out) (by rw [gst_free]; omega)
    have e1 : bump (appF n bs (rabs (fs1 ++ fs2)) (gst n s)) = ⟨0, rabs (fs1 ++ ⟨n, .slice A4 ((fz n).safe.length + ((fz n).rest.length + bs.length)) x4, [], bs⟩ :: fs2), { gst n s with free := (gst n s).free - bs.length, ops := (gst n s).ops + 1 }⟩ := by
      rw [appF, if_neg (by rw [gst_free]; omega)]
      have : pins n bs (rabs (fs1 ++ fs2)) = rabs (fs1 ++ ⟨n, .slice A4 ((fz n).safe.length + ((fz n).rest.length + bs.length)) x4, [], bs⟩ :: fs2) := by
        rw [rabs_app, rabs_app, rabs_cons]; exact pins_miss (rabs_lt l1) (rabs_gt l2)
      simp only [this, bump, if_true]
    rw [e1]
    refine ⟨rfl, lvX, _, hRf, rfl, HMM.out.trans hMf (M := fun b => b ∈ Rf.foot r lv (fs1 ++ fs2)) (fun k hk => .inl (hk ▸ foot_r)) (fun k hk => hk.elim (fun e => .inl (e ▸ foot_r)) fun e => .inr (Nat.le_trans HM2.out.size (hnX k e))), fun b hb => ?_⟩
    rcases Rf.foot_spec.1 hb with e | e | ⟨g, hg, e⟩
    · exact .inl (Rf.foot_spec.2 (.inl e))
    · exact .inr (Nat.le_trans HM2.out.size (hnX b e))
    · rcases List.mem_append.1 hg with hg | hg
      · exact .inl (Rf.foot_spec.2 (.inr (.inr ⟨g, by simp [hg], e⟩)))
      · rcases List.mem_cons.1 hg with rfl | hg
        · exact .inr (Nat.le_trans HMM.out.size (HO2.out.lt b e).1)
        · exact .inl (Rf.foot_spec.2 (.inr (.inr ⟨g, by simp [hg], e⟩)))
end Go.Proofs.Ytnfecdjcddidgaa
