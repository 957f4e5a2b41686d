/- The drum's methods: append, sync, delete. -/
import Derived.Test.YtnfecdjcddidgaaPlay
namespace Go.Proofs.Ytnfecdjcddidgaa
open Go.RowKit Go.Maps

/-- From w to w' the drum did step k. -/
def Did (d m : Nat) (fs : List DF) (w w' : World) (k : Step) : Prop :=
  ∃ fs', Dr w' d m fs' k.s ∧ absd fs' = k.L ∧ Mod (fun b => b ∈ Dr.foot d m fs) w w' ∧ ∀ b ∈ Dr.foot d m fs', b ∈ Dr.foot d m fs ∨ w.heap.size ≤ b

theorem foot_d {d m : Nat} {fs : List DF} : d ∈ Dr.foot d m fs := by simp [Dr.foot]
theorem foot_m {d m : Nat} {fs : List DF} : m ∈ Dr.foot d m fs := by simp [Dr.foot]
theorem foot_f {d m : Nat} {fs : List DF} {f : DF} (hf : f ∈ fs) {b : Nat} (hb : b ∈ f.blocks) : b ∈ Dr.foot d m fs := by
  simp only [Dr.foot, List.mem_cons]; exact .inr (.inr (mem_dfoot.2 ⟨f, hf, hb⟩))

theorem Did.before {d m : Nat} {fs : List DF} {a b c : World} {k : Step} (hm : Mod Nil a b) (h : Did d m fs b c k) : Did d m fs a c k := by
  obtain ⟨fs', h1, h2, h3, h4⟩ := h
  exact ⟨fs', h1, h2, hm.trans h3 (fun _ h => h.elim) (fun _ h => .inl h), fun b hb => (h4 b hb).imp id fun h => Nat.le_trans hm.size h⟩

theorem Dr.ops_cell {w : World} {d m : Nat} {fs : List DF} {s : DSt} (h : Dr w d m fs s) : w.cell? ⟨d, 4, none⟩ = some (.int .i64 s.ops) ∧ w.frozen? ⟨d, 4, none⟩ = false :=
  ⟨heap_cell h.st 4, heap_free h.st 4⟩

theorem operate_any {w : World} {d m g : Nat} {fs : List DF} {s : DSt} {n : Int} {lb : Array Value} (h : Dr w d m fs s) (eg : Go.Proofs.Enters Try.prog g)
    (hb : -9223372036854775808 ≤ s.left ∧ s.left ≤ 9223372036854775807) (hops : 0 ≤ s.ops ∧ s.ops ≤ 4611686018427387904) (F : DSt → Step) (hFo : (F (opers s)).s.ops = s.ops)
    (hC : 1 ≤ n → n ≤ 1000 → ∀ W, Dr W d m fs (opers s) → Mod (· = d) w W → Calls Try.prog g lb W fun e W' => e = .returned (.int .i64 (F (opers s)).c) ∧ Did d m fs W W' (F (opers s))) :
    Calls Try.prog 40 #[.pointer (some ⟨d, 0, none⟩), .int .i64 n, .func (.func g) #[] lb] w fun e w' => e = .returned (.int .i64 (gated n (absd fs) s F).c) ∧ Did d m fs w w' (gated n (absd fs) s F) := by
  by_cases h1 : n < 1 ∨ 1000 < n
  · refine (operate_arg h1).mono ?_
    rintro e w' ⟨rfl, rfl⟩
    rw [gated, if_pos h1]
    exact ⟨rfl, fs, h, rfl, Mod.refl _ _, fun b hb => .inl hb⟩
  · have hn : 1 ≤ n ∧ n ≤ 1000 := by omega
    by_cases h2 : s.dead = true ∨ s.left = 0
    · refine (operate_dead h hn h2).mono ?_
      rintro e w' ⟨rfl, hD, hm⟩
      rw [gated, if_neg h1, if_pos h2]
      exact ⟨rfl, fs, hD, rfl, hm.mono fun k hk => .inl (hk ▸ foot_d), fun b hb => .inl hb⟩
    · have hd : s.dead = false := by simpa using fun e => h2 (.inl e)
      have hl : s.left ≠ 0 := fun e => h2 (.inr e)
      rw [gated, if_neg h1, if_neg h2]
      refine (operate_run h hn hd hl eg hb hops (F (opers s)).c (fun W' => ∃ W, Mod (· = d) w W ∧ Did d m fs W W' (F (opers s))) (fun w' => Did d m fs w w' (bump (F (opers s)))) ?_ ?_).mono ?_
      · intro W hD hm
        refine (hC hn.1 hn.2 W hD hm).mono ?_
        rintro e W' ⟨rfl, hW⟩
        exact ⟨rfl, W, hm, hW⟩
      · rintro W' ⟨W, hm, fs', hD, ha, hm2, hf⟩
        have hoc := hD.ops_cell
        rw [hFo] at hoc
        refine ⟨hoc.1, hoc.2, fun hc => ?_, fun hc => ?_⟩
        · have hm3 : Mod (· = d) W' (W'.setCell ⟨d, 4, none⟩ (.int .i64 (s.ops + 1))) := (Mod.refl (· = d) W').setCell (p := ⟨d, 4, none⟩) (.inl rfl) _
          rw [bump, if_pos hc]
          refine ⟨fs', hD.set (s' := { (F (opers s)).s with ops := (F (opers s)).s.ops + 1 }) hm3 hD.room (by rw [hFo]; exact heap_setCell hD.st 4 _), ha,
            (hm.trans hm2 (M := fun b => b ∈ Dr.foot d m fs) (fun k hk => .inl (hk ▸ foot_d)) (fun k hk => .inl hk)).trans hm3 (fun k hk => .inl hk) (fun k hk => .inl (hk ▸ foot_d)), fun b hb => (hf b hb).imp id fun h => Nat.le_trans hm.size h⟩
        · rw [bump, if_neg hc]
          exact ⟨fs', hD, ha, hm.trans hm2 (fun k hk => .inl (hk ▸ foot_d)) (fun k hk => .inl hk), fun b hb => (hf b hb).imp id fun h => Nat.le_trans hm.size h⟩
      · rintro e w' ⟨rfl, hU⟩
        refine ⟨?_, hU⟩
        unfold bump
        split <;> rfl

theorem syncF_ops (n : Int) (L : List PF) (s : DSt) : (syncF n L s).s.ops = s.ops := by unfold syncF; split <;> rfl
theorem delF_ops (n : Int) (L : List PF) (s : DSt) : (delF n L s).s.ops = s.ops := by unfold delF; split <;> rfl
theorem appF_ops (n : Int) (x : List UInt8) (L : List PF) (s : DSt) : (appF n x L s).s.ops = s.ops := by unfold appF; split <;> rfl
theorem opers_ops (s : DSt) : (opers s).ops = s.ops := rfl
theorem opers_free (s : DSt) : (opers s).free = s.free := rfl

/-- The closure of Sync. -/
theorem sync_in {w : World} {d m b1 b2 : Nat} {fs : List DF} {s : DSt} {n : Int} (h : Dr w d m fs s) (hn : 1 ≤ n ∧ n ≤ 1000)
    (c0 : w.cell? ⟨b1, 0, none⟩ = some (.pointer (some ⟨d, 0, none⟩))) (c2 : w.cell? ⟨b2, 0, none⟩ = some (.int .i64 n)) :
    Calls Try.prog 46 #[.pointer (some ⟨b1, 0, none⟩), .pointer (some ⟨b2, 0, none⟩)] w fun e w' => e = .returned (.int .i64 (syncF n (absd fs) s).c) ∧ Did d m fs w w' (syncF n (absd fs) s) := by
  rcases split_at fs n h.sorted with ⟨fs1, f, fs2, rfl, rfl, h1, h2⟩ | ⟨fs1, fs2, rfl, h1, h2⟩
  · refine (sync_hit h c0 c2).mono ?_
    rintro e w' ⟨rfl, v', hfb, ho, hm, hv⟩
    have e1 : syncF f.n (absd (fs1 ++ f :: fs2)) s = ⟨0, absd fs1 ++ f.abs.synced :: absd fs2, s⟩ := by
      rw [absd_app, absd_cons, syncF, pget_abs h1]
      exact congrArg (fun L => (⟨0, L, s⟩ : Step)) (pturn_abs h1 h2)
    rw [e1]
    have hin : f ∈ fs1 ++ f :: fs2 := by simp
    have hnd := h.nodup hin
    rw [blocks_spec] at hnd
    let f' : DF := { n := f.n, fb := f.fb, sv := v', rv := .slice none 0 0, safe := f.safe ++ f.rest, rest := [] }
    have hbl : ∀ k ∈ f'.blocks, k ∈ f.blocks ∨ w.heap.size ≤ k := by
      intro k hk
      simp only [DF.blocks, f', List.mem_cons, List.mem_append, Option.mem_toList, Option.mem_def] at hk ⊢
      rcases hk with rfl | hk | hk
      · exact .inl (.inl rfl)
      · rcases hv with hv | hv
        · exact .inl (.inr (.inl (hv ▸ hk)))
        · rw [hv] at hk; cases hk; exact .inr (Nat.le_refl _)
      · cases hk
    have hlt : f.fb < w.heap.size := heap_lt (h.fl f hin).b
    have hnd' : f'.blocks.Nodup := by
      refine blocks_spec.2 ⟨?_, (fun e => by cases e), (fun k _ e => by cases e)⟩
      show some f.fb ≠ v'.ownBlock
      rcases hv with hv | hv
      · rw [hv]; exact hnd.1
      · rw [hv]; intro e; have e := Option.some.inj e; omega
    have hM : ∀ k, (k = f.fb ∨ f.sv.ownBlock = some k) → k ∈ f.blocks := by
      rintro k (rfl | hk)
      · simp [DF.blocks]
      · simp [DF.blocks, hk]
    have hdn : ¬ (d = f.fb ∨ f.sv.ownBlock = some d) := fun e => h.d_not (mem_dfoot.2 ⟨f, hin, hM d e⟩)
    have hsz : f'.sz = f.sz := by simp [DF.sz, f']
    have hroom : 0 ≤ s.free ∧ s.free + dsum (fs1 ++ f' :: fs2) ≤ 4194304 := by
      have := h.room
      rw [dsum_append] at this ⊢
      simp only [dsum, hsz] at this ⊢
      exact this
    refine ⟨rfl, fs1 ++ f' :: fs2, h.replace (f' := f') (s' := s) hm (fun k hk => .inl (hM k hk)) (heap_mod h.st hm hdn) ⟨hfb, ho, World.ownsRow_nil _ _ _ _⟩ rfl rfl hbl hnd' hroom, ?_, hm.mono fun k hk => .inl (foot_f hin (hM k hk)), fun b hb => ?_⟩
    · rw [absd_app, absd_cons]; rfl
    · simp only [Dr.foot, List.mem_cons] at hb ⊢
      rcases hb with rfl | rfl | hb
      · exact .inl (.inl rfl)
      · exact .inl (.inr (.inl rfl))
      · obtain ⟨g, hg, hb⟩ := mem_dfoot.1 hb
        rcases List.mem_append.1 hg with hg | hg
        · exact .inl (.inr (.inr (mem_dfoot.2 ⟨g, by simp [hg], hb⟩)))
        · rcases List.mem_cons.1 hg with rfl | hg
          · exact (hbl b hb).imp (fun h => .inr (.inr (mem_dfoot.2 ⟨f, hin, h⟩))) id
          · exact .inl (.inr (.inr (mem_dfoot.2 ⟨g, by simp [hg], hb⟩)))
  · have hno : ∀ f ∈ fs1 ++ fs2, f.n ≠ n := fun f hf => (List.mem_append.1 hf).elim (fun hf => by have := h1 f hf; omega) (fun hf => by have := h2 f hf; omega)
    refine (sync_miss h hn hno c0 c2).mono ?_
    rintro e w' ⟨rfl, hm⟩
    have e1 : syncF n (absd (fs1 ++ fs2)) s = ⟨7, absd (fs1 ++ fs2), s⟩ := by
      rw [syncF, pget_miss]
      intro g hg; obtain ⟨f, hf, rfl⟩ := List.mem_map.1 hg; exact hno f hf
    rw [e1]
    exact ⟨rfl, fs1 ++ fs2, h.kept hm (fun k _ hk => hk), rfl, hm.mono fun k hk => hk.elim, fun b hb => .inl hb⟩

/-- The closure of Delete. -/
theorem del_in {w : World} {d m b1 b2 : Nat} {fs : List DF} {s : DSt} {n : Int} (h : Dr w d m fs s) (hn : 1 ≤ n ∧ n ≤ 1000) (hb1 : b1 ≠ d) (hb2 : b2 ≠ d)
    (c0 : w.cell? ⟨b1, 0, none⟩ = some (.pointer (some ⟨d, 0, none⟩))) (c2 : w.cell? ⟨b2, 0, none⟩ = some (.int .i64 n)) :
    Calls Try.prog 47 #[.pointer (some ⟨b1, 0, none⟩), .pointer (some ⟨b2, 0, none⟩)] w fun e w' => e = .returned (.int .i64 (delF n (absd fs) s).c) ∧ Did d m fs w w' (delF n (absd fs) s) := by
  rcases split_at fs n h.sorted with ⟨fs1, f, fs2, rfl, rfl, h1, h2⟩ | ⟨fs1, fs2, rfl, h1, h2⟩
  · refine (delete_hit h hb1 hb2 c0 c2).mono ?_
    rintro e w' ⟨rfl, hD, hm⟩
    have e1 : delF f.n (absd (fs1 ++ f :: fs2)) s = ⟨0, absd fs1 ++ absd fs2, { s with free := s.free + f.sz }⟩ := by
      rw [absd_app, absd_cons, delF, pget_abs h1]
      exact congrArg (fun L => (⟨0, L, { s with free := s.free + f.sz }⟩ : Step)) (pdrop_abs h1 h2)
    rw [e1]
    refine ⟨rfl, fs1 ++ fs2, hD, absd_app _ _, hm.mono fun k hk => .inl (hk.elim (fun e => e ▸ foot_d) fun e => e ▸ foot_m), fun b hb => .inl ?_⟩
    simp only [Dr.foot, List.mem_cons] at hb ⊢
    rcases hb with rfl | rfl | hb
    · exact .inl rfl
    · exact .inr (.inl rfl)
    · obtain ⟨g, hg, hb⟩ := mem_dfoot.1 hb
      refine .inr (.inr (mem_dfoot.2 ⟨g, ?_, hb⟩))
      rcases List.mem_append.1 hg with hg | hg <;> simp [hg]
  · have hno : ∀ f ∈ fs1 ++ fs2, f.n ≠ n := fun f hf => (List.mem_append.1 hf).elim (fun hf => by have := h1 f hf; omega) (fun hf => by have := h2 f hf; omega)
    refine (delete_miss h hn hno c0 c2).mono ?_
    rintro e w' ⟨rfl, hm⟩
    have e1 : delF n (absd (fs1 ++ fs2)) s = ⟨7, absd (fs1 ++ fs2), s⟩ := by
      rw [delF, pget_miss]
      intro g hg; obtain ⟨f, hf, rfl⟩ := List.mem_map.1 hg; exact hno f hf
    rw [e1]
    exact ⟨rfl, fs1 ++ fs2, h.kept hm (fun k _ hk => hk), rfl, hm.mono fun k hk => hk.elim, fun b hb => .inl hb⟩

theorem foot_mid {d m : Nat} {fs1 fs2 : List DF} {f' : DF} {b : Nat} (hb : b ∈ Dr.foot d m (fs1 ++ f' :: fs2)) : b ∈ Dr.foot d m (fs1 ++ fs2) ∨ b ∈ f'.blocks := by
  simp only [Dr.foot, List.mem_cons] at hb ⊢
  rcases hb with rfl | rfl | hb
  · exact .inl (.inl rfl)
  · exact .inl (.inr (.inl rfl))
  · obtain ⟨g, hg, hb'⟩ := mem_dfoot.1 hb
    rcases List.mem_append.1 hg with hg | hg
    · exact .inl (.inr (.inr (mem_dfoot.2 ⟨g, by simp [hg], hb'⟩)))
    · rcases List.mem_cons.1 hg with rfl | hg
      · exact .inr hb'
      · exact .inl (.inr (.inr (mem_dfoot.2 ⟨g, by simp [hg], hb'⟩)))
theorem foot_more {d m : Nat} {fs1 fs2 : List DF} {f : DF} {b : Nat} (hb : b ∈ Dr.foot d m (fs1 ++ fs2)) : b ∈ Dr.foot d m (fs1 ++ f :: fs2) := by
  simp only [Dr.foot, List.mem_cons] at hb ⊢
  rcases hb with rfl | rfl | hb
  · exact .inl rfl
  · exact .inr (.inl rfl)
  · obtain ⟨g, hg, hb⟩ := mem_dfoot.1 hb
    refine .inr (.inr (mem_dfoot.2 ⟨g, ?_, hb⟩))
    rcases List.mem_append.1 hg with hg | hg <;> simp [hg]

/-- The closure of Append. -/
theorem app_in {w : World} {d m b0 b1 b2 : Nat} {fs : List DF} {s : DSt} {n : Int} {F : Nat → Prop} {A : Option Addr} {c : Nat} {bs : List (List UInt8)} (h : Dr w d m fs s) (hn : 1 ≤ n ∧ n ≤ 1000)
    (hF : ∀ b, F b → b < w.heap.size) (hS : SC Rbytes F w A bs) (hT : bs.flatten.length ≤ 140737488355328) (hl : bs.length ≤ 140737488351232) (hb1 : b1 ≠ d) (hb2 : b2 ≠ d)
    (c0 : w.cell? ⟨b0, 0, none⟩ = some (.slice A bs.length c)) (c1 : w.cell? ⟨b1, 0, none⟩ = some (.pointer (some ⟨d, 0, none⟩))) (c2 : w.cell? ⟨b2, 0, none⟩ = some (.int .i64 n)) :
    Calls Try.prog 41 #[.pointer (some ⟨b0, 0, none⟩), .pointer (some ⟨b1, 0, none⟩), .pointer (some ⟨b2, 0, none⟩)] w fun e w' => e = .returned (.int .i64 (appF n bs.flatten (absd fs) s).c) ∧ Did d m fs w w' (appF n bs.flatten (absd fs) s) := by
  by_cases hfull : s.free < bs.flatten.length
  · refine (append_full h hF hS hT hl hfull c0 c1).mono ?_
    rintro e w' ⟨rfl, hm⟩
    rw [appF, if_pos hfull]
    exact ⟨rfl, fs, h.kept hm (fun k _ hk => hk), rfl, hm.mono fun k hk => hk.elim, fun b hb => .inl hb⟩
  · have hroom : bs.flatten.length ≤ s.free := by omega
    rw [appF, if_neg hfull]
    rcases split_at fs n h.sorted with ⟨fs1, f, fs2, rfl, rfl, h1, h2⟩ | ⟨fs1, fs2, rfl, h1, h2⟩
    · have hin : f ∈ fs1 ++ f :: fs2 := by simp
      refine (append_hit h hF hS hl hroom c0 c1 c2 hb1 hb2).mono ?_
      rintro e w' ⟨rfl, f', e1, e2, e3, hD, hm, hbl⟩
      refine ⟨rfl, fs1 ++ f' :: fs2, hD, ?_, hm.mono fun k hk => .inl (hk.elim (foot_f hin) fun e => e ▸ foot_d), fun b hb => ?_⟩
      · simp only [absd_app, absd_cons]
        rw [pins_abs h1]
        simp only [DF.abs, e1, e2, e3]
      · rcases foot_mid hb with hb | hb
        · exact .inl (foot_more hb)
        · exact (hbl b hb).imp (foot_f hin) id
    · refine (append_new h hF hS hl hroom hn h1 h2 c0 c1 c2 hb1 hb2).mono ?_
      rintro e w' ⟨rfl, f', e1, e2, e3, hD, hm, hbl⟩
      refine ⟨rfl, fs1 ++ f' :: fs2, hD, ?_, hm.mono fun k hk => .inl (hk.elim (fun e => e ▸ foot_d) fun e => e ▸ foot_m), fun b hb => ?_⟩
      · simp only [absd_app, absd_cons]
        rw [pins_miss (absd_lt h1) (absd_gt h2)]
        simp only [DF.abs, e1, e2, e3]
      · exact (foot_mid hb).imp id (hbl b)

theorem ent41 : Go.Proofs.Enters Try.prog 41 := Go.Proofs.enters_of Try.func41 (by kernel_rfl) rfl
theorem ent46 : Go.Proofs.Enters Try.prog 46 := Go.Proofs.enters_of Try.func46 (by kernel_rfl) rfl
theorem ent47 : Go.Proofs.Enters Try.prog 47 := Go.Proofs.enters_of Try.func47 (by kernel_rfl) rfl
/-- What the methods ask of a drum. -/
structure Sane (s : DSt) : Prop where
  l : -9223372036854775808 ≤ s.left ∧ s.left ≤ 9223372036854775807
  o : 0 ≤ s.ops ∧ s.ops ≤ 4611686018427387904

/-- Two boxes: the drum's, and the number's. -/
def W2 (w : World) (d : Nat) (n : Int) : World := (w.alloc (.cells #[.pointer (some ⟨d, 0, none⟩)] 25 (0, 0))).alloc (.cells #[.int .i64 n] 3 (0, 0))
theorem W2_mod (w : World) (d : Nat) (n : Int) : Mod Nil w (W2 w d n) := ((Mod.refl Nil w).alloc _).alloc _
theorem W2_cells {w W : World} {d : Nat} {n : Int} (hd : d < w.heap.size) (hm : Mod (· = d) (W2 w d n) W) :
    W.cell? ⟨w.heap.size, 0, none⟩ = some (.pointer (some ⟨d, 0, none⟩)) ∧ W.cell? ⟨w.heap.size + 1, 0, none⟩ = some (.int .i64 n) := by
  have h1 : (W2 w d n).heap[w.heap.size]? = some (.cells #[.pointer (some ⟨d, 0, none⟩)] 25 (0, 0)) := heap_alloc (heap_new _ _) _
  have h2 : (W2 w d n).heap[w.heap.size + 1]? = some (.cells #[.int .i64 n] 3 (0, 0)) := by
    have := heap_new (w.alloc (.cells #[.pointer (some ⟨d, 0, none⟩)] 25 (0, 0))) (.cells #[.int .i64 n] 3 (0, 0))
    rwa [World.size_alloc] at this
  exact ⟨heap_cell (heap_mod h1 hm (by omega)) 0, heap_cell (heap_mod h2 hm (by omega)) 0⟩

theorem sync_any {w : World} {d m : Nat} {fs : List DF} {s : DSt} (h : Dr w d m fs s) (n : Int) (hf : Sane s) :
    Calls Try.prog 17 #[.pointer (some ⟨d, 0, none⟩), .int .i64 n] w fun e w' => e = .returned (.int .i64 (gated n (absd fs) s (syncF n (absd fs))).c) ∧ Did d m fs w w' (gated n (absd fs) s (syncF n (absd fs))) := by
  have hd := heap_lt h.st
  have hm : Mod Nil w (W2 w d n) := W2_mod w d n
  have H := Lib.hid (h.kept hm fun k _ hk => hk)
  have HM := Lib.hid hm
  have HF := Lib.hid hf
  unfold W2 at H HM
  clear h hm hf
  go_enter Try.func17, Try.ntmps17
  go_wp2_with fail
  refine (operate_any H.out ent46 HF.out.l HF.out.o (syncF n (absd fs)) (syncF_ops ..) fun n1 n2 W hD hmW => ?_).mono ?_
  · obtain ⟨c0, c2⟩ := W2_cells hd hmW
    exact sync_in hD ⟨n1, n2⟩ c0 c2
  · rintro e w' ⟨rfl, hDid⟩
    have HD := Lib.hid (hDid.before HM.out)
    clear hDid
    go_wp2
    go_ret
    exact ⟨rfl, HD.out⟩

theorem del_any {w : World} {d m : Nat} {fs : List DF} {s : DSt} (h : Dr w d m fs s) (n : Int) (hf : Sane s) :
    Calls Try.prog 19 #[.pointer (some ⟨d, 0, none⟩), .int .i64 n] w fun e w' => e = .returned (.int .i64 (gated n (absd fs) s (delF n (absd fs))).c) ∧ Did d m fs w w' (gated n (absd fs) s (delF n (absd fs))) := by
  have hd := heap_lt h.st
  have hm : Mod Nil w (W2 w d n) := W2_mod w d n
  have H := Lib.hid (h.kept hm fun k _ hk => hk)
  have HM := Lib.hid hm
  have HF := Lib.hid hf
  unfold W2 at H HM
  clear h hm hf
  go_enter Try.func19, Try.ntmps19
  go_wp2_with fail
  refine (operate_any H.out ent47 HF.out.l HF.out.o (delF n (absd fs)) (delF_ops ..) fun n1 n2 W hD hmW => ?_).mono ?_
  · obtain ⟨c0, c2⟩ := W2_cells hd hmW
    exact del_in hD ⟨n1, n2⟩ (by omega) (by omega) c0 c2
  · rintro e w' ⟨rfl, hDid⟩
    have HD := Lib.hid (hDid.before HM.out)
    clear hDid
    go_wp2
    go_ret
    exact ⟨rfl, HD.out⟩

/-- Three boxes: the drum's, the number's, the bytes'. -/
def W3 (w : World) (d : Nat) (n : Int) (v : Value) : World := (W2 w d n).alloc (.cells #[v] 32 (0, 0))
theorem W3_mod (w : World) (d : Nat) (n : Int) (v : Value) : Mod Nil w (W3 w d n v) := (W2_mod w d n).alloc _
theorem W3_cells {w W : World} {d : Nat} {n : Int} {v : Value} (hd : d < w.heap.size) (hm : Mod (· = d) (W3 w d n v) W) :
    W.cell? ⟨w.heap.size, 0, none⟩ = some (.pointer (some ⟨d, 0, none⟩)) ∧ W.cell? ⟨w.heap.size + 1, 0, none⟩ = some (.int .i64 n) ∧ W.cell? ⟨w.heap.size + 2, 0, none⟩ = some v := by
  have hs : (W2 w d n).heap.size = w.heap.size + 2 := by simp [W2]
  have hm2 : Mod (· = d) (W2 w d n) (W3 w d n v) := (Mod.refl _ _).alloc _
  obtain ⟨h1, h2⟩ := W2_cells hd (hm2.then hm)
  have h3 : (W3 w d n v).heap[w.heap.size + 2]? = some (.cells #[v] 32 (0, 0)) := by
    have := heap_new (W2 w d n) (.cells #[v] 32 (0, 0))
    rwa [hs] at this
  exact ⟨h1, h2, heap_cell (heap_mod h3 hm (by omega)) 0⟩

theorem app_any {w : World} {d m : Nat} {fs : List DF} {s : DSt} (h : Dr w d m fs s) (n : Int) (hf : Sane s) {F : Nat → Prop} {A : Option Addr} {c : Nat} {bs : List (List UInt8)}
    (hF : ∀ b, F b → b < w.heap.size) (hFd : ¬ F d) (hS : SC Rbytes F w A bs) (hT : bs.flatten.length ≤ 140737488355328) (hl : bs.length ≤ 140737488351232) :
    Calls Try.prog 14 #[.pointer (some ⟨d, 0, none⟩), .int .i64 n, .slice A bs.length c] w fun e w' => e = .returned (.int .i64 (gated n (absd fs) s (appF n bs.flatten (absd fs))).c) ∧ Did d m fs w w' (gated n (absd fs) s (appF n bs.flatten (absd fs))) := by
  have hd := heap_lt h.st
  have hm : Mod Nil w (W3 w d n (.slice A bs.length c)) := W3_mod ..
  have H := Lib.hid (h.kept hm fun k _ hk => hk)
  have HM := Lib.hid hm
  have HF := Lib.hid hf
  have HS := Lib.hid hS
  have HT := Lib.hid hT
  unfold W3 W2 at H HM
  clear h hm hf hS hT
  go_enter Try.func14, Try.ntmps14
  go_wp2_with fail
  refine (operate_any H.out ent41 HF.out.l HF.out.o (appF n bs.flatten (absd fs)) (appF_ops ..) fun n1 n2 W hD hmW => ?_).mono ?_
  · obtain ⟨c1, c2, c0⟩ := W3_cells hd hmW
    have hmm := HM.out.trans hmW (M := (· = d)) (fun _ h => h.elim) (fun _ h => .inl h)
    exact app_in hD ⟨n1, n2⟩ (fun b hb => Nat.lt_of_lt_of_le (hF b hb) hmm.size) (HS.out.frame (by decide) fun b hb hlt => hmm.block b hlt fun e => hFd (e ▸ hb)) HT.out hl (by omega) (by omega) c0 c1 c2
  · rintro e w' ⟨rfl, hDid⟩
    have HD := Lib.hid (hDid.before HM.out)
    clear hDid
    go_wp2
    go_ret
    exact ⟨rfl, HD.out⟩
end Go.Proofs.Ytnfecdjcddidgaa
