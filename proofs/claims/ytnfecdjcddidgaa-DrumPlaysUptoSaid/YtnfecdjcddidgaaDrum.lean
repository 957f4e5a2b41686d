/- The drum in memory, and what its methods do to it. -/
import Derived.Test.YtnfecdjcddidgaaConcat
import Derived.Test.YtnfecdjcddidgaaCanon
import Derived.Test.YtnfecdjcddidgaaPMap
namespace Go.Proofs.Ytnfecdjcddidgaa
open Go.RowKit Go.Maps

theorem mixed : Try.prog.follows .mixedOrders = true := by kernel_rfl
theorem keyI : Keyed Try.prog 3 := int_keyed Try.underlying3
theorem zero76 (w : World) : (zeroValue 76).run Try.prog w = .ok (.pointer none) w := by kernel_rfl

/-- A file: its number, its block, its two slices, and their bytes. -/
structure DF where
  n : Int
  fb : Nat
  sv : Value
  rv : Value
  safe : List UInt8
  rest : List UInt8

def DF.blocks (f : DF) : List Nat := f.fb :: (f.sv.ownBlock.toList ++ f.rv.ownBlock.toList)
structure DF.At (w : World) (f : DF) : Prop where
  b : w.heap[f.fb]? = some (.cells #[f.sv, f.rv] 79 (0, 0))
  s : OB w 5 f.sv f.safe
  r : OB w 5 f.rv f.rest

def dkeys (fs : List DF) : List (Int × Nat) := fs.map fun f => (f.n, f.fb)
def DF.sz (f : DF) : Nat := f.safe.length + f.rest.length
def dsum : List DF → Int
  | [] => 0
  | f :: r => f.sz + dsum r
theorem dsum_nonneg : ∀ fs : List DF, 0 ≤ dsum fs
  | [] => Int.le_refl _
  | f :: r => by have := dsum_nonneg r; simp only [dsum]; omega
theorem dsum_append : ∀ fs gs : List DF, dsum (fs ++ gs) = dsum fs + dsum gs
  | [], gs => by simp [dsum]
  | f :: r, gs => by simp only [List.cons_append, dsum, dsum_append r gs]; omega
def dfoot (fs : List DF) : List Nat := fs.flatMap DF.blocks

structure DSt where
  free : Int
  left : Int
  dead : Bool
  ops : Int

def DSt.cells (s : DSt) (m : Nat) : Array Value := #[.map (some m), .int .i64 s.free, .int .i64 s.left, .bool s.dead, .int .i64 s.ops]

/-- The drum at block d, its map at block m. -/
structure Dr (w : World) (d m : Nat) (fs : List DF) (s : DSt) : Prop where
  st : w.heap[d]? = some (.cells (s.cells m) 73 (0, 0))
  mp : w.ownsMap Try.prog 3 Rptr m fs.length (pmap (dkeys fs))
  fl : ∀ f ∈ fs, f.At w
  apart : (dfoot fs).Nodup
  sorted : fs.Pairwise fun f g => f.n < g.n
  rng : ∀ f ∈ fs, 1 ≤ f.n ∧ f.n ≤ 1000
  room : 0 ≤ s.free ∧ s.free + dsum fs ≤ 4194304

theorem DF.At.kept {w w' : World} {f : DF} (h : f.At w) {M : Nat → Prop} (m : Mod M w w') (hn : ∀ k ∈ f.blocks, ¬ M k) : f.At w' :=
  ⟨heap_mod h.b m (hn _ (by simp [DF.blocks])), own_kept h.s m (fun k hk => hn k (by simp [DF.blocks, hk])), own_kept h.r m (fun k hk => hn k (by simp [DF.blocks, hk]))⟩
theorem DF.At.lt {w : World} {f : DF} (h : f.At w) {k : Nat} (hk : k ∈ f.blocks) : k < w.heap.size := by
  simp only [DF.blocks, List.mem_cons, List.mem_append, Option.mem_toList, Option.mem_def] at hk
  rcases hk with rfl | hk | hk
  · exact heap_lt h.b
  · exact own_lt h.s hk
  · exact own_lt h.r hk

def Dr.foot (d m : Nat) (fs : List DF) : List Nat := d :: m :: dfoot fs

theorem Dr.lt {w : World} {d m : Nat} {fs : List DF} {s : DSt} (h : Dr w d m fs s) {k : Nat} (hk : k ∈ Dr.foot d m fs) : k < w.heap.size := by
  simp only [Dr.foot, List.mem_cons, dfoot, List.mem_flatMap] at hk
  rcases hk with rfl | rfl | ⟨f, hf, hk⟩
  · exact heap_lt h.st
  · exact h.mp.lt
  · exact (h.fl f hf).lt hk
theorem map_kept {w w' : World} {P : Program} {k : TypeId} {R : Value → Option (DataW Unit × List MemPlace)} {b n : Nat} {D : DataW Unit} (h : w.ownsMap P k R b n D) {M : Nat → Prop} (m : Mod M w w') (hn : ¬ M b) : w'.ownsMap P k R b n D := by
  obtain ⟨es, c, h1, h2⟩ := h
  exact ⟨es, c, heap_mod h1 m hn, h2⟩
theorem Dr.kept {w w' : World} {d m : Nat} {fs : List DF} {s : DSt} (h : Dr w d m fs s) {M : Nat → Prop} (hm : Mod M w w') (hn : ∀ k ∈ Dr.foot d m fs, ¬ M k) : Dr w' d m fs s :=
  ⟨heap_mod h.st hm (hn _ (by simp [Dr.foot])), map_kept h.mp hm (hn _ (by simp [Dr.foot])), fun f hf => (h.fl f hf).kept hm (fun k hk => hn k (by simp only [Dr.foot, dfoot, List.mem_cons, List.mem_flatMap]; exact .inr (.inr ⟨f, hf, hk⟩))), h.apart, h.sorted, h.rng, h.room⟩
theorem Dr.dm {w : World} {d m : Nat} {fs : List DF} {s : DSt} (h : Dr w d m fs s) : d ≠ m := by
  intro e
  obtain ⟨es, c, h1, _⟩ := h.mp
  rw [← e, h.st] at h1
  cases h1
theorem Dr.d_not {w : World} {d m : Nat} {fs : List DF} {s : DSt} (h : Dr w d m fs s) : d ∉ dfoot fs := by
  intro hd
  simp only [dfoot, List.mem_flatMap, DF.blocks, List.mem_cons, List.mem_append, Option.mem_toList, Option.mem_def] at hd
  obtain ⟨f, hf, hd⟩ := hd
  have hf' := h.fl f hf
  rcases hd with rfl | hd | hd
  · have := hf'.b; rw [h.st] at this; simp [DSt.cells] at this
  · rcases hf'.s.2 with ⟨e, _⟩ | ⟨g, cap, cur, e, _, hg, _⟩
    · rw [e] at hd; cases hd
    · rw [e] at hd; cases hd; rw [h.st] at hg; cases hg
  · rcases hf'.r.2 with ⟨e, _⟩ | ⟨g, cap, cur, e, _, hg, _⟩
    · rw [e] at hd; cases hd
    · rw [e] at hd; cases hd; rw [h.st] at hg; cases hg
theorem Dr.m_not {w : World} {d m : Nat} {fs : List DF} {s : DSt} (h : Dr w d m fs s) : m ∉ dfoot fs := by
  intro hd
  obtain ⟨es, c, hmm, _⟩ := h.mp
  simp only [dfoot, List.mem_flatMap, DF.blocks, List.mem_cons, List.mem_append, Option.mem_toList, Option.mem_def] at hd
  obtain ⟨f, hf, hd⟩ := hd
  have hf' := h.fl f hf
  rcases hd with rfl | hd | hd
  · have := hf'.b; rw [hmm] at this; cases this
  · rcases hf'.s.2 with ⟨e, _⟩ | ⟨g, cap, cur, e, _, hg, _⟩
    · rw [e] at hd; cases hd
    · rw [e] at hd; cases hd; rw [hmm] at hg; cases hg
  · rcases hf'.r.2 with ⟨e, _⟩ | ⟨g, cap, cur, e, _, hg, _⟩
    · rw [e] at hd; cases hd
    · rw [e] at hd; cases hd; rw [hmm] at hg; cases hg

/-- The drum's own struct is written: all else stands. -/
theorem Dr.set {w w' : World} {d m : Nat} {fs : List DF} {s s' : DSt} (h : Dr w d m fs s) (hm : Mod (· = d) w w') (hroom : 0 ≤ s'.free ∧ s'.free + dsum fs ≤ 4194304) (hst : w'.heap[d]? = some (.cells (s'.cells m) 73 (0, 0))) : Dr w' d m fs s' :=
  ⟨hst, map_kept h.mp hm (fun e => h.dm e.symm), fun f hf => (h.fl f hf).kept hm (fun k hk e => h.d_not (by subst e; simp only [dfoot, List.mem_flatMap]; exact ⟨f, hf, hk⟩)), h.apart, h.sorted, h.rng, hroom⟩

theorem dkeys_sorted {fs : List DF} (h : fs.Pairwise fun f g => f.n < g.n) : (dkeys fs).Pairwise fun p q => p.1 < q.1 := by
  unfold dkeys
  rw [List.pairwise_map]
  exact h

/-! ### The small methods -/
theorem free_any {w : World} {d m : Nat} {fs : List DF} {s : DSt} (h : Dr w d m fs s) :
    Calls Try.prog 39 #[.pointer (some ⟨d, 0, none⟩)] w fun e w' => e = .returned (.int .i64 s.free) ∧ w = w' := by
  have c1 : w.cell? ⟨d, 1, none⟩ = some (.int .i64 s.free) := heap_cell h.st 1
  clear h
  go_enter Try.func39, Try.ntmps39
  go_wp2
  go_ret
  exact ⟨rfl, rfl⟩
theorem ops_any {w : World} {d m : Nat} {fs : List DF} {s : DSt} (h : Dr w d m fs s) :
    Calls Try.prog 38 #[.pointer (some ⟨d, 0, none⟩)] w fun e w' => e = .returned (.int .i64 s.ops) ∧ w = w' := by
  have c1 : w.cell? ⟨d, 4, none⟩ = some (.int .i64 s.ops) := heap_cell h.st 4
  clear h
  go_enter Try.func38, Try.ntmps38
  go_wp2
  go_ret
  exact ⟨rfl, rfl⟩
theorem dead_any {w : World} {d m : Nat} {fs : List DF} {s : DSt} (h : Dr w d m fs s) :
    Calls Try.prog 37 #[.pointer (some ⟨d, 0, none⟩)] w fun e w' => e = .returned (.bool s.dead) ∧ w = w' := by
  have c1 : w.cell? ⟨d, 3, none⟩ = some (.bool s.dead) := heap_cell h.st 3
  clear h
  go_enter Try.func37, Try.ntmps37
  go_wp2
  go_ret
  exact ⟨rfl, rfl⟩
theorem arm_any {w : World} {d m : Nat} {fs : List DF} {s : DSt} (h : Dr w d m fs s) (n : Int) :
    Calls Try.prog 21 #[.pointer (some ⟨d, 0, none⟩), .int .i64 n] w fun e w' => e = .returned (.tuple #[]) ∧ Dr w' d m fs { s with left := n } ∧ Mod (· = d) w w' := by
  have c1 : w.cell? ⟨d, 2, none⟩ = some (.int .i64 s.left) := heap_cell h.st 2
  have f1 : w.frozen? ⟨d, 2, none⟩ = false := heap_free h.st 2
  have hm : Mod (· = d) w (w.setCell ⟨d, 2, none⟩ (.int .i64 n)) := (Mod.refl (· = d) w).setCell (p := ⟨d, 2, none⟩) (.inl rfl) _
  have hd := h.set (s' := { s with left := n }) hm h.room (heap_setCell h.st 2 _)
  clear h
  go_enter Try.func21, Try.ntmps21
  go_wp2
  go_end0
  exact ⟨rfl, hd, hm⟩
theorem new_bad (n : Int) (w : World) (h : n < 0 ∨ 4194304 < n) :
    Calls Try.prog 10 #[.int .i64 n] w fun e w' => e = .returned (.tuple #[.pointer none, .int .i64 2]) ∧ w = w' := by
  have hmm := @run_makeMap Try.prog
  by_cases h1 : n < 0
  · go_enter Try.func10, Try.ntmps10
    go_wp2
    go_ret2
    exact ⟨rfl, rfl⟩
  · have h2 : 4194304 < n := by omega
    go_enter Try.func10, Try.ntmps10
    go_wp2
    go_ret2
    exact ⟨rfl, rfl⟩
def newSt (n : Int) : DSt := { free := n, left := -1, dead := false, ops := 0 }
theorem new_ok (n : Int) (w : World) (h1 : 0 ≤ n) (h2 : n ≤ 4194304) :
    Calls Try.prog 10 #[.int .i64 n] w fun e w' => e = .returned (.tuple #[.pointer (some ⟨w.heap.size + 1, 0, none⟩), .int .i64 0]) ∧ Dr w' (w.heap.size + 1) w.heap.size [] (newSt n) ∧ Mod Nil w w' := by
  have hmm := @run_makeMap Try.prog
  go_enter Try.func10, Try.ntmps10
  go_wp2
  go_ret2
  refine ⟨rfl, ⟨?_, ?_, by simp, by simp [dfoot], List.Pairwise.nil, by simp, by simp [newSt, dsum]; omega⟩, ((Mod.refl _ w).alloc _).alloc _⟩
  · have := heap_new (w.alloc (.map #[] 0)) (.cells ((newSt n).cells w.heap.size) 73 (0, 0))
    rw [World.size_alloc] at this
    exact this
  · exact (World.ownsMap_made w Try.prog 3 Rptr).alloc _

/-! ### The closures of operate -/
/-- A block that is none of an owned row's. -/
theorem ne_own {w : World} {b e sz n : Nat} {cs : Array Value} {t : TypeId} {fr : Nat × Nat} {v : Value} {xs : List Value} {B : Nat} (h : w.heap[b]? = some (.cells cs t fr)) (ho : w.ownsRow B e sz v n xs) (hne : t ≠ e) : some b ≠ v.ownBlock := by
  intro hb
  rcases ho.2 with ⟨rfl, _⟩ | ⟨g, cap, cur, rfl, _, hg, _⟩
  · cases hb
  · cases hb
    rw [h] at hg
    injection hg with hg
    injection hg with _ hg
    exact hne hg

set_option maxRecDepth 100000 in
theorem sync_hit {w : World} {d m b1 b2 : Nat} {fs1 fs2 : List DF} {f : DF} {s : DSt} (h : Dr w d m (fs1 ++ f :: fs2) s)
    (c0 : w.cell? ⟨b1, 0, none⟩ = some (.pointer (some ⟨d, 0, none⟩))) (c2 : w.cell? ⟨b2, 0, none⟩ = some (.int .i64 f.n)) :
    Calls Try.prog 46 #[.pointer (some ⟨b1, 0, none⟩), .pointer (some ⟨b2, 0, none⟩)] w fun e w' => e = .returned (.int .i64 0) ∧ ∃ v', w'.heap[f.fb]? = some (.cells #[v', .slice none 0 0] 79 (0, 0)) ∧ OB w' 5 v' (f.safe ++ f.rest) ∧ Mod (fun k => k = f.fb ∨ f.sv.ownBlock = some k) w w' ∧ (v'.ownBlock = f.sv.ownBlock ∨ v'.ownBlock = some w.heap.size) := by
  have hin : f ∈ fs1 ++ f :: fs2 := by simp
  have cm : w.cell? ⟨d, 0, none⟩ = some (.map (some m)) := heap_cell h.st 0
  have hf := h.fl f hin
  have hl : f.safe.length + f.rest.length ≤ 140737488355328 := by
    have h1 := h.room; have h2 := dsum_nonneg fs1; have h3 := dsum_nonneg fs2
    rw [dsum_append] at h1; simp only [dsum, DF.sz] at h1; omega
  obtain ⟨n, fb, sv, rv, safe, rest⟩ := f
  obtain ⟨hb, hs, hr⟩ := hf
  obtain ⟨A, c, erv, hc, hr⟩ := hr.reads
  dsimp only at *
  subst erv
  have f0 : w.cell? ⟨fb, 0, none⟩ = some sv := heap_cell hb 0
  have f1 : w.cell? ⟨fb, 1, none⟩ = some (.slice A rest.length c) := heap_cell hb 1
  have hmp := h.mp
  have hks := dkeys_sorted h.sorted
  have hki : (n, fb) ∈ dkeys (fs1 ++ ⟨n, fb, sv, .slice A rest.length c, safe, rest⟩ :: fs2) := by simp [dkeys]
  have hwf : (Lit.int .i64 n).wf = true := WalkArith.wf_i64 (by have := h.rng _ hin; dsimp only at this; omega)
  have hne := ne_own hb hs (by decide)
  obtain ⟨A0, c00, rfl, _⟩ := own_form hs
  clear h
  go_enter Try.func46, Try.ntmps46
  go_wp2
  refine wp_text mixed (by kernel_rfl) ?_
  go_wp2_with (at_lookup; refine wp_look_hit rfl _ _ 71 rfl 3 76 keyI Try.underlying3 Try.underlying71 (zero76 _) m _ _ rfl hmp n hwf rfl fb hks hki ?_)
  refine nf_end (by kernel_rfl) ?_
  go_wp2
  refine wp_text mixed (by kernel_rfl) ?_
  go_wp2_with (at_builtin; refine wp_append_bytes rfl _ _ 39 5 rfl Try.underlying39 info5 0 (.slice A0 safe.length c00) safe rfl hs _ A c rest _ rfl rfl hr hl (Nat.zero_le _) ?_; intro v' w1 hown' hg hb' hn'; obtain ⟨A2, c2, rfl, _⟩ := own_form hown'; rw [List.length_append] at hown' hb'; have hb1 := (hg.block fb (heap_lt hb) hne).trans hb; have g0 := heap_cell hb1 0; have g1 := heap_cell hb1 1; have z0 := heap_free hb1 0; have z1 := heap_free hb1 1)
  refine nf_end (by kernel_rfl) ?_
  go_wp2
  go_ret
  have m1 : Mod (fun k => k = fb ∨ (Value.slice A0 safe.length c00).ownBlock = some k) w w1 := ((Mod.refl _ w).drew.drew).grown hg (fun k hk => .inl (.inr hk))
  have nf : (Value.slice A2 (safe.length + rest.length) c2).ownBlock ≠ some fb := by
    rcases hb' with hb' | hb' <;> rw [hb']
    · exact fun e => hne e.symm
    · intro e; cases e; exact absurd (heap_lt hb) (Nat.lt_irrefl _)
  refine ⟨rfl, _, heap_setCell (heap_setCell hb1 0 _) 1 _, ?_, (m1.setCell (p := ⟨fb, 0, none⟩) (.inl (.inl rfl)) _).setCell (p := ⟨fb, 1, none⟩) (.inl (.inl rfl)) _, hb'⟩
  unfold OB
  rw [List.length_append]
  exact own_kept hown' (((Mod.refl (· = fb) w1).setCell (p := ⟨fb, 0, none⟩) (.inl rfl) _).setCell (p := ⟨fb, 1, none⟩) (.inl rfl) _) (fun k hk e => nf (e ▸ hk))

theorem mem_dfoot {fs : List DF} {k : Nat} : k ∈ dfoot fs ↔ ∃ f ∈ fs, k ∈ f.blocks := by simp [dfoot, List.mem_flatMap]

/-- A file is put in the place of another one. -/
theorem Dr.replace {w w' : World} {d m : Nat} {fs1 fs2 : List DF} {f f' : DF} {s s' : DSt} {M : Nat → Prop} (h : Dr w d m (fs1 ++ f :: fs2) s) (hm : Mod M w w') (hM : ∀ k, M k → k ∈ f.blocks ∨ w.heap.size ≤ k ∨ k = d)
    (hst : w'.heap[d]? = some (.cells (s'.cells m) 73 (0, 0))) (hf : f'.At w') (hn : f'.n = f.n) (hb : f'.fb = f.fb) (hbl : ∀ k ∈ f'.blocks, k ∈ f.blocks ∨ w.heap.size ≤ k) (hnd : f'.blocks.Nodup) (hroom : 0 ≤ s'.free ∧ s'.free + dsum (fs1 ++ f' :: fs2) ≤ 4194304) :
    Dr w' d m (fs1 ++ f' :: fs2) s' := by
  have hap := h.apart
  have hd : ∀ {k}, k ∈ f.blocks → k ∈ dfoot (fs1 ++ f :: fs2) := fun hk => mem_dfoot.2 ⟨f, by simp, hk⟩
  have hkeys : dkeys (fs1 ++ f' :: fs2) = dkeys (fs1 ++ f :: fs2) := by simp [dkeys, hn, hb]
  have hlen : (fs1 ++ f' :: fs2).length = (fs1 ++ f :: fs2).length := by simp
  have e1 : dfoot (fs1 ++ f :: fs2) = dfoot fs1 ++ (f.blocks ++ dfoot fs2) := by simp [dfoot]
  have e2 : dfoot (fs1 ++ f' :: fs2) = dfoot fs1 ++ (f'.blocks ++ dfoot fs2) := by simp [dfoot]
  rw [e1] at hap
  obtain ⟨a1, a2, a3⟩ := List.nodup_append.1 hap
  obtain ⟨a4, a5, a6⟩ := List.nodup_append.1 a2
  have lt : ∀ {k}, k ∈ dfoot fs1 ∨ k ∈ dfoot fs2 → k < w.heap.size := fun hk => h.lt (by
    simp only [Dr.foot, List.mem_cons]
    refine .inr (.inr ?_)
    rw [e1]
    rcases hk with hk | hk <;> simp [hk])
  refine ⟨hst, ?_, ?_, ?_, ?_, ?_, hroom⟩
  · rw [hkeys, hlen]
    refine map_kept h.mp hm fun hk => ?_
    rcases hM _ hk with h1 | h1 | h1
    · exact h.m_not (hd h1)
    · exact absurd h.mp.lt (by omega)
    · exact h.dm h1.symm
  · intro g hg
    rcases List.mem_append.1 hg with h1 | h1
    · refine (h.fl g (by simp [h1])).kept hm fun k hk hmk => ?_
      have kin : k ∈ dfoot fs1 := mem_dfoot.2 ⟨g, h1, hk⟩
      rcases hM _ hmk with h2 | h2 | h2
      · exact a3 k kin k (by simp [h2]) rfl
      · exact absurd (lt (.inl kin)) (by omega)
      · exact h.d_not (by rw [e1, ← h2]; simp [kin])
    · rcases List.mem_cons.1 h1 with rfl | h1
      · exact hf
      · refine (h.fl g (by simp [h1])).kept hm fun k hk hmk => ?_
        have kin : k ∈ dfoot fs2 := mem_dfoot.2 ⟨g, h1, hk⟩
        rcases hM _ hmk with h2 | h2 | h2
        · exact a6 k h2 k kin rfl
        · exact absurd (lt (.inr kin)) (by omega)
        · exact h.d_not (by rw [e1, ← h2]; simp [kin])
  · rw [e2]
    refine List.nodup_append.2 ⟨a1, List.nodup_append.2 ⟨hnd, a5, fun x hx y hy hxy => ?_⟩, fun x hx y hy hxy => ?_⟩
    · subst hxy
      rcases hbl x hx with h1 | h1
      · exact a6 x h1 x hy rfl
      · exact absurd (lt (.inr hy)) (by omega)
    · subst hxy
      rcases List.mem_append.1 hy with hy | hy
      · rcases hbl x hy with h1 | h1
        · exact a3 x hx x (by simp [h1]) rfl
        · exact absurd (lt (.inl hx)) (by omega)
      · exact a3 x hx x (by simp [hy]) rfl
  · have := h.sorted
    rw [List.pairwise_append, List.pairwise_cons] at this ⊢
    rw [hn]
    refine ⟨this.1, this.2.1, fun a ha b hb => ?_⟩
    rcases List.mem_cons.1 hb with rfl | hb
    · rw [hn]; exact this.2.2 a ha f (by simp)
    · exact this.2.2 a ha b (by simp [hb])
  · intro g hg
    rcases List.mem_append.1 hg with h1 | h1
    · exact h.rng g (by simp [h1])
    · rcases List.mem_cons.1 h1 with rfl | h1
      · rw [hn]; exact h.rng f (by simp)
      · exact h.rng g (by simp [h1])

theorem map_tight {w : World} {P : Program} {k : TypeId} {b n : Nat} {l : List (Int × Nat)} (h : w.ownsMap P k Rptr b n (pmap l)) : w.ownsMap P k Rptr b l.length (pmap l) := by
  obtain ⟨es, c, h1, h2, h3, h4⟩ := h
  refine ⟨es, c, h1, h2, ?_, h4⟩
  have := congrArg (fun D : DataW Unit => match D with | .map l => l.length | _ => 0) h4
  simp only [pmap, List.length_map, length_sorted, Array.length_toList] at this
  omega

theorem dkeys_del {fs1 fs2 : List DF} {f : DF} (h : (fs1 ++ f :: fs2).Pairwise fun f g => f.n < g.n) : (dkeys (fs1 ++ f :: fs2)).filter (fun p => decide (p.1 ≠ f.n)) = dkeys (fs1 ++ fs2) := by
  rw [List.pairwise_append, List.pairwise_cons] at h
  have e1 : (dkeys fs1).filter (fun p => decide (p.1 ≠ f.n)) = dkeys fs1 := by
    rw [List.filter_eq_self]
    intro p hp
    obtain ⟨g, hg, rfl⟩ := List.mem_map.1 hp
    have := h.2.2 g hg f (by simp)
    simp; omega
  have e2 : (dkeys fs2).filter (fun p => decide (p.1 ≠ f.n)) = dkeys fs2 := by
    rw [List.filter_eq_self]
    intro p hp
    obtain ⟨g, hg, rfl⟩ := List.mem_map.1 hp
    have := h.2.1.1 g hg
    simp; omega
  have e3 : dkeys (fs1 ++ f :: fs2) = dkeys fs1 ++ (f.n, f.fb) :: dkeys fs2 := by simp [dkeys]
  have e4 : dkeys (fs1 ++ fs2) = dkeys fs1 ++ dkeys fs2 := by simp [dkeys]
  rw [e3, e4, List.filter_append, List.filter_cons, e1, e2]
  simp

/-- A file is gone. -/
theorem Dr.dropped {w w' : World} {d m N : Nat} {fs1 fs2 : List DF} {f : DF} {s : DSt} (h : Dr w d m (fs1 ++ f :: fs2) s) (hm : Mod (fun k => k = d ∨ k = m) w w')
    (hst : w'.heap[d]? = some (.cells (({ s with free := s.free + f.sz } : DSt).cells m) 73 (0, 0))) (hmp : w'.ownsMap Try.prog 3 Rptr m N ((pmap (dkeys (fs1 ++ f :: fs2))).del (.int .i64 f.n))) : Dr w' d m (fs1 ++ fs2) { s with free := s.free + f.sz } := by
  rw [pmap_del, dkeys_del h.sorted] at hmp
  have hsub : (fs1 ++ fs2).Sublist (fs1 ++ f :: fs2) := List.Sublist.append (List.Sublist.refl _) (List.sublist_cons_self _ _)
  refine ⟨hst, ?_, fun g hg => (h.fl g (hsub.subset hg)).kept hm fun k hk hmk => ?_, ?_, h.sorted.sublist hsub, fun g hg => h.rng g (hsub.subset hg), ?_⟩
  · have := map_tight hmp
    simpa [dkeys] using this
  · have hin : k ∈ dfoot (fs1 ++ f :: fs2) := mem_dfoot.2 ⟨g, hsub.subset hg, hk⟩
    rcases hmk with rfl | rfl
    · exact h.d_not hin
    · exact h.m_not hin
  · have := h.apart
    simp only [dfoot, List.flatMap_append, List.flatMap_cons] at this ⊢
    exact this.sublist (List.Sublist.append (List.Sublist.refl _) (List.sublist_append_right _ _))
  · have h1 := h.room; have h2 := dsum_nonneg fs1; have h3 := dsum_nonneg fs2
    rw [dsum_append] at h1 ⊢
    simp only [dsum] at h1 ⊢
    omega

theorem Dr.noKey {w : World} {d m : Nat} {fs : List DF} {s : DSt} (_h : Dr w d m fs s) {n : Int} (hn : ∀ f ∈ fs, f.n ≠ n) : ∀ p ∈ dkeys fs, p.1 ≠ n := by
  intro p hp
  obtain ⟨f, hf, rfl⟩ := List.mem_map.1 hp
  exact hn f hf

set_option maxRecDepth 100000 in
theorem sync_miss {w : World} {d m b1 b2 : Nat} {fs : List DF} {n : Int} {s : DSt} (h : Dr w d m fs s) (hr : 1 ≤ n ∧ n ≤ 1000) (hno : ∀ f ∈ fs, f.n ≠ n)
    (c0 : w.cell? ⟨b1, 0, none⟩ = some (.pointer (some ⟨d, 0, none⟩))) (c2 : w.cell? ⟨b2, 0, none⟩ = some (.int .i64 n)) :
    Calls Try.prog 46 #[.pointer (some ⟨b1, 0, none⟩), .pointer (some ⟨b2, 0, none⟩)] w fun e w' => e = .returned (.int .i64 7) ∧ Mod Nil w w' := by
  have cm : w.cell? ⟨d, 0, none⟩ = some (.map (some m)) := heap_cell h.st 0
  have hmp := h.mp
  have hnk := h.noKey hno
  have hwf : (Lit.int .i64 n).wf = true := WalkArith.wf_i64 (by omega)
  clear h hno
  go_enter Try.func46, Try.ntmps46
  go_wp2
  refine wp_text mixed (by kernel_rfl) ?_
  go_wp2_with (at_lookup; refine wp_look_miss rfl _ _ 71 rfl 3 76 keyI Try.underlying3 Try.underlying71 (zero76 _) m _ _ rfl hmp n hwf rfl hnk ?_)
  refine nf_end (by kernel_rfl) ?_
  go_wp2
  go_ret
  exact ⟨rfl, (Mod.refl _ w).drew⟩

set_option maxRecDepth 100000 in
theorem delete_miss {w : World} {d m b1 b2 : Nat} {fs : List DF} {n : Int} {s : DSt} (h : Dr w d m fs s) (hr : 1 ≤ n ∧ n ≤ 1000) (hno : ∀ f ∈ fs, f.n ≠ n)
    (c0 : w.cell? ⟨b1, 0, none⟩ = some (.pointer (some ⟨d, 0, none⟩))) (c2 : w.cell? ⟨b2, 0, none⟩ = some (.int .i64 n)) :
    Calls Try.prog 47 #[.pointer (some ⟨b1, 0, none⟩), .pointer (some ⟨b2, 0, none⟩)] w fun e w' => e = .returned (.int .i64 7) ∧ Mod Nil w w' := by
  have cm : w.cell? ⟨d, 0, none⟩ = some (.map (some m)) := heap_cell h.st 0
  have hmp := h.mp
  have hnk := h.noKey hno
  have hwf : (Lit.int .i64 n).wf = true := WalkArith.wf_i64 (by omega)
  clear h hno
  go_enter Try.func47, Try.ntmps47
  go_wp2
  refine wp_text mixed (by kernel_rfl) ?_
  go_wp2_with (at_lookup; refine wp_look_miss rfl _ _ 71 rfl 3 76 keyI Try.underlying3 Try.underlying71 (zero76 _) m _ _ rfl hmp n hwf rfl hnk ?_)
  refine nf_end (by kernel_rfl) ?_
  go_wp2
  go_ret
  exact ⟨rfl, (Mod.refl _ w).drew⟩

set_option maxRecDepth 100000 in
theorem delete_hit {w : World} {d m b1 b2 : Nat} {fs1 fs2 : List DF} {f : DF} {s : DSt} (h : Dr w d m (fs1 ++ f :: fs2) s) (hb1 : b1 ≠ d) (hb2 : b2 ≠ d)
    (c0 : w.cell? ⟨b1, 0, none⟩ = some (.pointer (some ⟨d, 0, none⟩))) (c2 : w.cell? ⟨b2, 0, none⟩ = some (.int .i64 f.n)) :
    Calls Try.prog 47 #[.pointer (some ⟨b1, 0, none⟩), .pointer (some ⟨b2, 0, none⟩)] w fun e w' => e = .returned (.int .i64 0) ∧ Dr w' d m (fs1 ++ fs2) { s with free := s.free + f.sz } ∧ Mod (fun k => k = d ∨ k = m) w w' := by
  have hin : f ∈ fs1 ++ f :: fs2 := by simp
  have cm : w.cell? ⟨d, 0, none⟩ = some (.map (some m)) := heap_cell h.st 0
  have cf : w.cell? ⟨d, 1, none⟩ = some (.int .i64 s.free) := heap_cell h.st 1
  have zf : w.frozen? ⟨d, 1, none⟩ = false := heap_free h.st 1
  have hf := h.fl f hin
  have hl : 0 ≤ s.free ∧ s.free + f.safe.length + f.rest.length ≤ 4194304 := by
    have h1 := h.room; have h2 := dsum_nonneg fs1; have h3 := dsum_nonneg fs2
    rw [dsum_append] at h1; simp only [dsum, DF.sz] at h1; omega
  obtain ⟨A, c, erv, hc, hr⟩ := hf.r.reads
  obtain ⟨A0, c00, esv, _⟩ := own_form hf.s
  have f0 : w.cell? ⟨f.fb, 0, none⟩ = some (.slice A0 f.safe.length c00) := by rw [← esv]; exact heap_cell hf.b 0
  have f1 : w.cell? ⟨f.fb, 1, none⟩ = some (.slice A f.rest.length c) := by rw [← erv]; exact heap_cell hf.b 1
  have hmp := h.mp
  have hks := dkeys_sorted h.sorted
  have hki : (f.n, f.fb) ∈ dkeys (fs1 ++ f :: fs2) := by simp [dkeys]
  have hwf : (Lit.int .i64 f.n).wf = true := WalkArith.wf_i64 (by have := h.rng _ hin; omega)
  have hmp' := hmp.setCell (a := ⟨d, 1, none⟩) (fun e => h.dm e.symm) (.int .i64 (s.free + (f.safe.length + f.rest.length)))
  have H := Lib.hid h
  clear h erv esv hf
  obtain ⟨hl0, hl1⟩ := hl
  go_enter Try.func47, Try.ntmps47
  go_wp2
  refine wp_text mixed (by kernel_rfl) ?_
  go_wp2_with (at_lookup; refine wp_look_hit rfl _ _ 71 rfl 3 76 keyI Try.underlying3 Try.underlying71 (zero76 _) m _ _ rfl hmp f.n hwf rfl f.fb hks hki ?_)
  refine nf_end (by kernel_rfl) ?_
  go_wp2
  refine wp_text mixed (by kernel_rfl) ?_
  go_wp2
  refine nf_end (by kernel_rfl) ?_
  go_wp2
  refine wp_text mixed (by kernel_rfl) ?_
  go_wp2_with (at_delete; refine wpList_delete_own _ rfl _ _ 71 3 rfl 76 keyI Try.underlying71 Rptr m _ _ rfl hmp' _ _ rfl (keyOf_int_mk Try.underlying3 hwf) ?_; intro w1 hown1 hturn1)
  refine nf_end (by kernel_rfl) ?_
  go_wp2
  go_ret
  have hm1 : Mod (fun k => k = d ∨ k = m) w w1 := (((Mod.refl _ w).setCell (p := ⟨d, 1, none⟩) (.inl (.inl rfl)) (.int .i64 (s.free + (f.safe.length + f.rest.length)))).drew.drew.drew).grown hturn1.grown (fun k hk => by cases hk; exact .inl (.inr rfl))
  refine ⟨rfl, H.out.dropped hm1 ?_ hown1, hm1⟩
  have e1 := heap_setCell H.out.st 1 (.int .i64 (s.free + (f.safe.length + f.rest.length)))
  refine (hturn1.grown.block d (by simp; exact heap_lt H.out.st) (fun e => H.out.dm (Option.some.inj e))).trans (e1.trans ?_)
  simp [DSt.cells, DF.sz]
end Go.Proofs.Ytnfecdjcddidgaa
