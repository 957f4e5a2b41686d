/- The law's own function given: copies. -/
import Derived.Test.YtnfecdjcddidgaaLawA
namespace Go.Proofs.Ytnfecdjcddidgaa
open Go.RowKit Go.Maps

theorem info39 : (Try.prog.info? 39).map (fun i => (i.zero, i.size, i.bytes)) = some (some (.slice none 0 0), 1, 24) := by kernel_rfl

/-- Rows of bytes of one's own, in a row of one's own. -/
def GB (w : World) (B : Nat) (v : Value) (bs : List (List UInt8)) : Prop :=
  ∃ ps : List Value, w.ownsRow B 39 1 v bs.length ps ∧ ∀ k (hk : k < bs.length), ∃ p, ps[k]? = some p ∧ w.ownsRow B 5 1 p bs[k].length (bcells bs[k])

theorem GB.kept {w w' : World} {B : Nat} {v : Value} {bs : List (List UInt8)} (h : GB w B v bs) {M : Nat → Prop} (hm : Mod M w w') (hM : ∀ k, M k → k < B) : GB w' B v bs := by
  obtain ⟨ps, h1, h2⟩ := h
  refine ⟨ps, own_kept h1 hm (fun k hk hmk => by have := (h1.lt k hk).1; have := hM k hmk; omega), fun k hk => ?_⟩
  obtain ⟨p, hp, ho⟩ := h2 k hk
  exact ⟨p, hp, own_kept ho hm (fun k hk hmk => by have := (ho.lt k hk).1; have := hM k hmk; omega)⟩

/-- It reads as lists of bytes. -/
theorem GB.reads {w : World} {B : Nat} {v : Value} {bs : List (List UInt8)} (h : GB w B v bs) (hl : ∀ x ∈ bs, x.length ≤ 140737488351232) : ∃ A c, v = .slice A bs.length c ∧ SC Rbytes (fun b => B ≤ b ∧ b < w.heap.size) w A bs := by
  obtain ⟨ps, h1, h2⟩ := h
  obtain ⟨A, c, rfl, hc, hA⟩ := own_form h1
  refine ⟨A, c, rfl, fun h0 => ?_⟩
  rcases hA with rfl | ⟨g, rfl, hg⟩
  · rcases h1.2 with ⟨_, h0'⟩ | ⟨g, cap, cur, h1', _⟩
    · omega
    · cases h1'
  · refine ⟨g, 0, rfl, h1.lt g hg, fun i hi => ?_⟩
    obtain ⟨p, hp, ho⟩ := h2 i hi
    obtain ⟨A', c', rfl, hc', hS⟩ := OB.reads (w := w) (e := 5) (v := p) (xs := bs[i]) (own_base (B' := 0) ho (fun _ _ => Nat.zero_le _))
    refine ⟨[.slice A' bs[i].length c'], ⟨A', c', rfl, hc', hl _ (List.getElem_mem hi), hS.mono (by decide) fun b hb _ => ho.lt b hb⟩, fun j u hu => ?_⟩
    match j, hu with
    | 0, hu =>
      cases hu
      have := h1.cells hg i _ hp
      rw [addr_add, Nat.zero_add] at this
      have e : (⟨g, 0 + i * Rbytes.sz + 0, none⟩ : Addr) = ⟨g, i, none⟩ := by simp [Rbytes, Rdr.slice]
      rw [e]; exact this

set_option maxHeartbeats 1000000 in
theorem given_any (F : Nat → Prop) (A : Option Addr) (c : Nat) (bs : List (List UInt8)) (w : World) (hF : ∀ b, F b → b < w.heap.size) (h : SC Rbytes F w A bs) (hT : bs.flatten.length ≤ 140737488351232) (hl : bs.length ≤ 1000000) :
    Calls Try.prog 13 #[.slice A bs.length c] w fun e w' => ∃ v, e = .returned v ∧ GB w' w.heap.size v bs ∧ Mod Nil w w' := by
  have H := Lib.hid h
  clear h
  go_enter Try.func13, Try.ntmps13
  go_wp2
  go_loopw [3, 4] (fun v i wr => ∃ k : Nat, k ≤ bs.length ∧ i = .int .i64 k ∧ GB wr w.heap.size v (bs.take k) ∧ Mod Nil w wr) (fun _ i _ => bs.length - (intOf i).toNat)
  case atStart => exact ⟨0, Nat.zero_le _, rfl, ⟨[], World.ownsRow_nil _ _ _ _, fun k hk => by simp at hk⟩, Mod.refl _ _⟩
  case round =>
    obtain ⟨k, hk, rfl, hgb, hm⟩ := hrel
    by_cases hlt : k < bs.length
    · obtain ⟨b, o, A', c', rfl, hb, c0, hc1, hc2, hSC⟩ := H.out.slice_at hlt
      have c0 : wr.cell? ⟨b, o + k, none⟩ = some (.slice A' bs[k].length c') := by
        rw [World.cell?_of_block (w := w) (hm.block _ (hF b hb) (fun h => h))]; exact c0
      have hblt : b < wr.heap.size := Nat.lt_of_lt_of_le (hF b hb) hm.size
      have hmE : Mod Nil wr (wr.alloc (.cells #[] 5 (0, 0))) := (Mod.refl Nil wr).alloc _
      have hS := hSC.kept (by decide) (hm.then hmE) (fun _ _ _ h => h)
      have hbk : bs[k].length ≤ 140737488351232 := by
        have := (List.sublist_flatten_of_mem (List.getElem_mem hlt)).length_le
        omega
      have hown0 : (wr.alloc (.cells #[] 5 (0, 0))).ownsRow w.heap.size 5 1 (.slice (some ⟨wr.heap.size, 0, none⟩) 0 0) ([] : List UInt8).length (bcells []) :=
        ⟨rfl, .inr ⟨wr.heap.size, 0, #[], rfl, hm.size, heap_new wr _, Nat.le_refl _, by decide, rfl, rfl⟩⟩
      have hsz : w.heap.size ≤ (wr.alloc (.cells #[] 5 (0, 0))).heap.size := Nat.le_trans hm.size hmE.size
      have b0 : ([] : List UInt8).length + bs[k].length ≤ 140737488355328 := by simp only [List.length_nil]; omega
      have HM := Lib.hid hm
      have HG := Lib.hid hgb
      have HME := Lib.hid hmE
      have c0' : (wr.alloc (.cells #[] 5 (0, 0))).cell? ⟨b, o + k, none⟩ = some (.slice A' bs[k].length c') := by rw [World.cell?_of_block (hmE.block _ hblt (fun h => h))]; exact c0
      have cB : ∀ w3, (wr.alloc (.cells #[] 5 (0, 0))).grownBy w3 (Value.slice (some ⟨wr.heap.size, 0, none⟩) 0 0).ownBlock → Mod Nil wr w3 := fun w3 hg => HME.out.grown hg (fun q hq => .inr (by have := Option.some.inj hq; simp only at this; omega))
      obtain ⟨ps, hps, hpe⟩ := hgb
      have hpsl : (bs.take k).length = k := by rw [List.length_take]; omega
      have HPS := Lib.hid hps
      have HPE := Lib.hid hpe
      have HB := Lib.hid cB
      rw [hpsl] at hps
      clear hSC hm hmE hpe cB hps
      go_wp2_with (first
        | (at_builtin; refine wp_append_bytes rfl _ _ 39 5 rfl Try.underlying39 info5 w.heap.size (.slice (some ⟨wr.heap.size, 0, none⟩) 0 0) [] rfl hown0 F A' c' bs[k] _ rfl rfl hS b0 hsz ?_; intro v3 w3 hown3 hg3 hb3 hn3; rw [List.nil_append] at hown3; have hm3 := HB.out w3 hg3; obtain ⟨A3, x3, rfl, _⟩ := own_form hown3; have HO3 := Lib.hid hown3; have HM3 := Lib.hid hm3; clear hown3 hm3)
        | (at_builtin; refine wp_append rfl _ _ 32 39 rfl (.slice none 0 0) 1 24 Try.underlying32 info39 rfl (by omega) (by omega) w.heap.size u3 k ps rfl (by have := own_kept HPS.out (HM3.out.alloc (.cells #[.slice A3 bs[k].length x3] 39 (0, 0))) (fun _ _ h => h); rw [hpsl] at this; exact this) (some ⟨w3.heap.size, 0, none⟩) 1 1 [.slice A3 bs[k].length x3] rfl rfl (fun e => by cases e) (by rintro ad e j u hu; cases e; rw [addr_add, Nat.zero_add]; match j, hu with | 0, hu => cases hu; exact heap_cell (heap_new w3 _) 0) (by intro u hu; cases List.mem_singleton.1 hu; rfl) (by omega) (Nat.le_trans HM.out.size (HM3.out.alloc (.cells #[.slice A3 bs[k].length x3] 39 (0, 0))).size) ?_; intro v7 w7 hown7 hg7 hb7 hn7))
      have hmW : Mod Nil wr (w3.alloc (.cells #[.slice A3 bs[k].length x3] 39 (0, 0))) := HM3.out.alloc _
      have hownW := own_kept HPS.out hmW (fun _ _ h => h)
      have hm7 : Mod (fun q => u3.ownBlock = some q) (w3.alloc (.cells #[.slice A3 bs[k].length x3] 39 (0, 0))) w7 := (Mod.refl _ _).grown hg7 (fun q hq => .inl hq)
      have hne : ∀ {p : Value} {xs : List UInt8}, (w3.alloc (.cells #[.slice A3 bs[k].length x3] 39 (0, 0))).ownsRow w.heap.size 5 1 p xs.length (bcells xs) → ∀ q, p.ownBlock = some q → ¬ (u3.ownBlock = some q) := fun hb q hq e => by
        obtain ⟨cs, hcs⟩ := own_block hownW e
        exact ne_own hcs hb (by decide) hq.symm
      have hlk : (bs.take (k + 1)).length = k + 1 := by rw [List.length_take]; omega
      have hGB : GB w7 w.heap.size v7 (bs.take (k + 1)) := by
        refine ⟨ps ++ [.slice A3 bs[k].length x3], by rw [hlk]; exact hown7, fun i hi => ?_⟩
        rw [hlk] at hi
        have hpl : ps.length = k := by have := HPS.out.1; rw [hpsl] at this; omega
        rw [List.getElem_take]
        by_cases hik : i < k
        · obtain ⟨p, hp, ho⟩ := HPE.out i (by rw [hpsl]; exact hik)
          rw [List.getElem_take] at ho
          have ho' := own_kept ho hmW (fun _ _ h => h)
          exact ⟨p, by rw [List.getElem?_append_left (by omega)]; exact hp, own_kept ho' hm7 (hne ho')⟩
        · obtain rfl : i = k := by omega
          have ho' := own_kept HO3.out ((Mod.refl Nil w3).alloc (.cells #[.slice A3 bs[i].length x3] 39 (0, 0))) (fun _ _ h => h)
          exact ⟨_, by rw [List.getElem?_append_right (by omega), show i - ps.length = 0 by omega]; rfl, own_kept ho' hm7 (hne ho')⟩
      have HGB := Lib.hid hGB
      have HM7 := Lib.hid ((HM.out.then hmW).grown hg7 (fun q hq => .inr (hownW.lt q hq).1))
      clear hGB hm7 hownW hmW hown7 hg7
      go_roundw
      case rel => exact ⟨k + 1, by omega, by go_num, HGB.out, HM7.out⟩
      case measure => simp [intOf]; omega
    · obtain rfl : k = bs.length := by omega
      rw [List.take_length] at hgb
      have HG := Lib.hid hgb
      have HM := Lib.hid hm
      clear hgb hm
      go_wp2
      go_ret
      exact ⟨_, rfl, HG.out, HM.out⟩
end Go.Proofs.Ytnfecdjcddidgaa
