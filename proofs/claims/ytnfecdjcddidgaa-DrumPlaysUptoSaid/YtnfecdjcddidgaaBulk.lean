/- What an argument reads as, and that its measure is no more than its bulk. -/
import Derived.Test.YtnfecdjcddidgaaLawE
import Derived.Test.YtnfecdjcddidgaaRows
namespace Go.Proofs.Ytnfecdjcddidgaa
open Go.RowKit Go.Maps

theorem bulk_one {H : Type} (d : DataW H) : 1 ≤ Rows.uptoBulk d := by
  cases d with
  | lit l => cases l <;> simp [Rows.uptoBulk]
  | nil => simp [Rows.uptoBulk]
  | ptr d => simp [Rows.uptoBulk]
  | slice elems spare => simp [Rows.uptoBulk]
  | agg parts => simp [Rows.uptoBulk]
  | iface t d => simp [Rows.uptoBulk]
  | map entries => simp [Rows.uptoBulk]
  | held h => simp [Rows.uptoBulk]

def Rdr.OpensB {α : Type} (d : Rdr α) (P : Program) (t : TypeId) (mu : α → Nat) : Prop :=
  P.cellsOf t = d.sz ∧ ∀ (H : Type) (enc : TypeId × Value → H) (w : World) (sp : Nat → Bool) (held : Bool) (n : Nat) (cs : List Value) (x : DataW H × List MemPlace),
    DataW.trod enc P w 0 sp held n t cs = some x → (∀ m ∈ x.1.weights P t, m ≤ reachBytes) → ∃ a, d.K (fun b => b < w.heap.size) w a cs ∧ mu a ≤ Rows.uptoBulk x.1

theorem Rdr.Opens.bulk {α : Type} {d : Rdr α} {P : Program} {t : TypeId} (h : d.Opens P t) : d.OpensB P t (fun _ => 1) :=
  ⟨h.1, fun H enc w sp held n cs x hx hm => by obtain ⟨a, ha⟩ := h.2 H enc w sp held n cs x hx hm; exact ⟨a, ha, bulk_one _⟩⟩

theorem bulkAll_le {H α : Type} (mu : α → Nat) : ∀ (l : List α) (D : List (DataW H)), l.length = D.length → (∀ (i : Nat) a x, l[i]? = some a → D[i]? = some x → mu a ≤ Rows.uptoBulk x) → (l.map mu).sum ≤ Rows.uptoBulkAll D
  | [], [], _, _ => by simp [Rows.uptoBulkAll]
  | a :: l, x :: D, h, hm => by
    have h1 := hm 0 a x rfl rfl
    have h2 := bulkAll_le mu l D (by simpa using h) (fun i a x ha hx => hm (i + 1) a x (by simpa using ha) (by simpa using hx))
    simp only [List.map_cons, List.sum_cons, Rows.uptoBulkAll]
    omega

theorem opensB_str {P : Program} {t : TypeId} (ht : P.underlying t = some .string) (hc : P.cellsOf t = 1) : Rdr.str.OpensB P t (fun s => s.size + 1) :=
  ⟨hc, fun H enc w sp held n cs x h hm => by
    obtain ⟨a, rfl, rfl, _⟩ := DataW.trod_string ht h
    refine ⟨a, ⟨rfl, ?_⟩, ?_⟩
    · have := hm a.data.toList.length (by simp [DataW.weights])
      rw [reach_le] at this
      rw [Array.length_toList] at this
      exact this
    · have : Rows.uptoBulk (DataW.lit (H := H) (.string a.data.toList)) = a.data.toList.length + 1 := by simp only [Rows.uptoBulk]
      rw [this, Array.length_toList]
      exact Nat.le_refl _⟩

theorem opensB_slice {α : Type} {d : Rdr α} {mu : α → Nat} {P : Program} {t e : TypeId} (ht : P.underlying t = some (.slice e)) (hc : P.cellsOf t = 1) (hb : 0 < P.bytesOf e) (hs : 0 < d.sz) (hd : d.OpensB P e mu) : (d.slice hs).OpensB P t (fun xs => (xs.map mu).sum + 1) := by
  refine ⟨hc, fun H enc w sp held n cs x h hm => ?_⟩
  rcases Deep.open_slice ht h with ⟨rfl, rfl⟩ | ⟨a, len, cap, m, n', D, Pl, rfl, _, hl, hcap, hmm, rfl, hx⟩
  · exact ⟨[], ⟨none, 0, rfl, by simp, by simp, fun h => absurd h (by simp)⟩, by simp [Rows.uptoBulk]⟩
  · have hlm : len ≤ m := by rw [hmm]; split <;> omega
    have hw : ∀ i, i < len → ∀ q ∈ (D i).weights P e, q ≤ reachBytes := fun i hi q hq => hm q (by
      simp only [DataW.weights, ht]
      exact List.mem_cons_of_mem _ (List.mem_append_left _ (weights_all (List.mem_map.2 ⟨i, List.mem_range.2 hi, rfl⟩) q hq)))
    have hlen : len ≤ 140737488351232 := by
      have h1 := hm _ (by simp only [DataW.weights, ht]; exact List.mem_cons_self)
      rw [reach_le] at h1
      simp only [List.length_map, List.length_range] at h1
      have := Nat.le_mul_of_pos_right (len + (m - len)) hb
      omega
    have one : ∀ i, i < len → ∃ a' : α × List Value, (d.K (fun b => b < w.heap.size) w a'.1 a'.2 ∧ ∀ j u, a'.2[j]? = some u → w.cell? (a.add (i * d.sz + j)) = some u) ∧ mu a'.1 ≤ Rows.uptoBulk (D i) := fun i hi => by
      obtain ⟨cs', h1, h2⟩ := hx i (by omega)
      obtain ⟨y, hy, hmu⟩ := hd.2 H enc w sp held n' cs' _ h2 (hw i hi)
      obtain ⟨_, hcl, hc'⟩ := World.cells?_some h1
      refine ⟨(y, cs'), ⟨hy, fun j u hu => ?_⟩, hmu⟩
      have hj : j < cs'.length := by
        rcases Nat.lt_or_ge j cs'.length with h | h
        · exact h
        · rw [List.getElem?_eq_none h] at hu; cases hu
      have := hc' j (by omega)
      rw [Deep.add_add, hd.1] at this
      exact this.trans hu
    rcases Nat.eq_zero_or_pos len with rfl | hpos
    · exact ⟨[], ⟨some a, cap, rfl, by simp, by simp, fun h => absurd h (by simp)⟩, by simp [Rows.uptoBulk]⟩
    · classical
      let ys : List α := (List.range len).attach.map fun i => (Classical.choose (one i.1 (List.mem_range.1 i.2))).1
      have hy : ys.length = len := by simp [ys]
      have h0 := (Classical.choose_spec (one 0 hpos)).1
      have hlen0 := d.len h0.1
      obtain ⟨u0, hu0⟩ : ∃ u, (Classical.choose (one 0 hpos)).2[0]? = some u := ⟨_, List.getElem?_eq_getElem (by omega)⟩
      have hc0 := h0.2 0 u0 hu0
      have ha0 : a.add (0 * d.sz + 0) = a := by simp [Addr.add]
      rw [ha0] at hc0
      have hsp := addr_plain hc0
      have hlt := World.block_lt_of_cell? w _ hc0
      obtain ⟨b, o, s⟩ := a
      simp only at hsp
      subst hsp
      refine ⟨ys, ⟨some ⟨b, o, none⟩, cap, by rw [hy], by omega, by omega, fun _ => ⟨b, o, rfl, hlt, fun i hi => ?_⟩⟩, ?_⟩
      · have hi' : i < len := by omega
        refine ⟨(Classical.choose (one i hi')).2, ?_, fun j u hu => ?_⟩
        · have : ys[i] = (Classical.choose (one i hi')).1 := by simp [ys]
          rw [this]
          exact (Classical.choose_spec (one i hi')).1.1
        · have h2 := (Classical.choose_spec (one i hi')).1.2 j u hu
          have he : (⟨b, o, none⟩ : Addr).add (i * d.sz + j) = ⟨b, o + i * d.sz + j, none⟩ := by
            unfold Addr.add
            split
            · rename_i h; simp
            · simp [Nat.add_assoc]
          rw [he] at h2
          exact h2
      · have := bulkAll_le mu ys ((List.range len).map D) (by simp [hy]) (fun i a x ha hx => by
          have hi : i < len := by have := (List.getElem?_eq_some_iff.1 ha).1; omega
          rw [List.getElem?_eq_getElem (by omega)] at ha
          have hya : ys[i] = (Classical.choose (one i hi)).1 := by simp [ys]
          rw [hya] at ha
          simp [List.getElem?_range, hi] at hx
          cases ha
          rw [← hx]
          exact (Classical.choose_spec (one i hi)).2)
        simp only [Rows.uptoBulk]
        omega

def OpensFieldsB {α : Type} (d : Rdr α) (P : Program) (fs : List Field) (off : Nat) (mu : α → Nat) : Prop :=
  ∀ (H : Type) (enc : TypeId × Value → H) (w : World) (sp : Nat → Bool) (held : Bool) (n : Nat) (cs : List Value) (xs : List (DataW H × List MemPlace)),
    cs.length = off + d.sz → xs.length = fs.length → (∀ (i : Nat) (f : Field), fs[i]? = some f → DataW.trod enc P w 0 sp held n f.type ((cs.drop f.offset).take (P.cellsOf f.type)) = xs[i]?) →
    (∀ m ∈ DataW.weightsEach P (fs.map (·.type)) (xs.map (·.1)), m ≤ reachBytes) → ∃ a, d.K (fun b => b < w.heap.size) w a (cs.drop off) ∧ mu a ≤ Rows.uptoBulkAll (xs.map (·.1))

theorem opensB_last {α : Type} {d : Rdr α} {mu : α → Nat} {P : Program} {f : Field} {off : Nat} (hd : d.OpensB P f.type mu) (ho : f.offset = off) : OpensFieldsB d P [f] off mu := by
  intro H enc w sp held n cs xs hl hx ht hm
  obtain ⟨x, rfl⟩ : ∃ x, xs = [x] := List.length_eq_one_iff.1 hx
  have h0 := ht 0 f rfl
  rw [ho, hd.1, List.take_of_length_le (by simp; omega)] at h0
  obtain ⟨a, h1, h2⟩ := hd.2 H enc w sp held n _ x (by simpa using h0) (fun m hm' => hm m (by simp [DataW.weightsEach, hm']))
  exact ⟨a, h1, by simp only [List.map_cons, List.map_nil, Rows.uptoBulkAll]; omega⟩

theorem opensB_field {α β : Type} {d : Rdr α} {e : Rdr β} {mu : α → Nat} {nu : β → Nat} {P : Program} {f : Field} {fs : List Field} {off : Nat} (hd : d.OpensB P f.type mu) (ho : f.offset = off) (he : OpensFieldsB e P fs (off + d.sz) nu) : OpensFieldsB (d.pair e) P (f :: fs) off (fun x => mu x.1 + nu x.2) := by
  intro H enc w sp held n cs xs hl hx ht hm
  obtain ⟨x, ys, rfl⟩ : ∃ x ys, xs = x :: ys := by cases xs with | nil => simp at hx | cons x ys => exact ⟨x, ys, rfl⟩
  have h0 := ht 0 f rfl
  rw [ho, hd.1] at h0
  obtain ⟨a, ha, hma⟩ := hd.2 H enc w sp held n _ x (by simpa using h0) (fun m hm' => hm m (by simp [DataW.weightsEach, hm']))
  have hsz : (d.pair e).sz = d.sz + e.sz := rfl
  obtain ⟨b, hb, hmb⟩ := he H enc w sp held n cs ys (by omega) (by simpa using hx) (fun i g hg => by simpa using ht (i + 1) g (by simpa using hg)) (fun m hm' => hm m (by simp only [List.map_cons, DataW.weightsEach, List.mem_append]; exact .inr hm'))
  refine ⟨(a, b), ⟨_, _, ?_, ha, hb⟩, ?_⟩
  · rw [← List.drop_drop, List.take_append_drop]
  · simp only [List.map_cons, Rows.uptoBulkAll]; omega

theorem opensB_struct {α : Type} {d : Rdr α} {mu : α → Nat} {P : Program} {t : TypeId} {fs : Array Field} (ht : P.underlying t = some (.struct fs)) (hc : P.cellsOf t = d.sz) (h : OpensFieldsB d P fs.toList 0 mu) : d.OpensB P t mu := by
  refine ⟨hc, fun H enc w sp held n cs x hx hm => ?_⟩
  obtain ⟨xs, n', rfl, rfl, hl, hxl, hf⟩ := DataW.trod_struct ht hx
  obtain ⟨a, h1, h2⟩ := h H enc w sp held n' cs xs (by omega) (by simpa using hxl) (fun i f hf' => hf i f (by simpa using hf')) (fun m hm' => hm m (by simp only [DataW.weights, ht]; exact hm'))
  refine ⟨a, by simpa using h1, ?_⟩
  simp only [Rows.uptoBulk]
  omega

theorem opensB_to {α β : Type} {d : Rdr α} {d' : Rdr β} {mu : α → Nat} {nu : β → Nat} {P : Program} {t : TypeId} (h : d.OpensB P t mu) (hs : d.sz = d'.sz) (hk : ∀ F w a cs, d.K F w a cs → ∃ b, d'.K F w b cs ∧ nu b ≤ mu a) : d'.OpensB P t nu :=
  ⟨h.1.trans hs, fun H enc w sp held n cs x hx hm => by obtain ⟨a, ha, h1⟩ := h.2 H enc w sp held n cs x hx hm; obtain ⟨b, hb, h2⟩ := hk _ _ _ _ ha; exact ⟨b, hb, Nat.le_trans h2 h1⟩⟩

/-! ### The acts -/
def muRow (x : List UInt8) : Nat := (x.map fun _ => 1).sum + 1
def muRows (L : List (List UInt8)) : Nat := (L.map muRow).sum + 1
def muTails (T : List Tail) : Nat := (T.map fun _ => 1).sum + 1
def muAct (a : Act14) : Nat := 1 + (1 + (muRows a.L + (1 + muTails a.T)))
def muActs (l : List Act14) : Nat := (l.map muAct).sum + 1

set_option maxRecDepth 100000 in
theorem opensB39 : Rbytes.OpensB Try.prog 39 muRow := opensB_slice Try.underlying39 (by kernel_rfl) (by decide +kernel) (by decide) opens5.bulk
set_option maxRecDepth 100000 in
theorem opensB32 : Rlists.OpensB Try.prog 32 muRows := opensB_slice Try.underlying32 (by kernel_rfl) (by decide +kernel) (by decide) opensB39
set_option maxRecDepth 100000 in
theorem opensB33 : (Rtail.slice (by decide)).OpensB Try.prog 33 muTails := opensB_slice Try.underlying33 (by kernel_rfl) (by decide +kernel) (by decide) opens67.bulk
set_option maxRecDepth 100000 in
theorem opensB35 : Ract.OpensB Try.prog 35 muAct := by
  refine opensB_to (d := (Rdr.int .i64).pair ((Rdr.int .i64).pair (Rlists.pair ((Rdr.int .i64).pair (Rtail.slice (by decide)))))) (mu := _) (opensB_struct (mu := _) Try.underlying35 (by kernel_rfl) (opensB_field (mu := fun _ => 1) opens3.bulk rfl (opensB_field (mu := fun _ => 1) opens3.bulk rfl (opensB_field (mu := muRows) opensB32 rfl (opensB_field (mu := fun _ => 1) opens3.bulk rfl (opensB_last (mu := muTails) opensB33 rfl)))))) rfl ?_
  · rintro F w ⟨a, b, c, d, e⟩ cs ⟨c1, c2, rfl, ⟨rfl, h1⟩, c3, c4, rfl, ⟨rfl, h2⟩, c5, c6, rfl, ⟨Al, cl, rfl, k1, k2, k3⟩, c7, c8, rfl, ⟨rfl, h4⟩, ⟨At, ct, rfl, k4, k5, k6⟩⟩
    exact ⟨⟨a, b, c, d, e⟩, ⟨Al, cl, At, ct, rfl, h1, h2, h4, k2, k5, k3, k6⟩, Nat.le_refl _⟩
set_option maxRecDepth 100000 in
theorem opensB22 : (Ract.slice (by decide)).OpensB Try.prog 22 muActs := opensB_slice Try.underlying22 (by kernel_rfl) (by decide +kernel) (by decide) opensB35

theorem sum_mem {α : Type} {f : α → Nat} {x : α} {l : List α} (h : x ∈ l) : f x ≤ (l.map f).sum := by
  induction l with
  | nil => cases h
  | cons y r ih =>
    simp only [List.map_cons, List.sum_cons]
    rcases List.mem_cons.1 h with rfl | h
    · omega
    · have := ih h; omega
theorem sum_ones {α : Type} (l : List α) : (l.map fun _ => 1).sum = l.length := by
  induction l with
  | nil => rfl
  | cons y r ih => simp only [List.map_cons, List.sum_cons, List.length_cons, ih]; omega
theorem muRow_eq (x : List UInt8) : muRow x = x.length + 1 := by unfold muRow; rw [sum_ones]
theorem muRows_eq (L : List (List UInt8)) : L.length + L.flatten.length ≤ muRows L := by
  unfold muRows
  induction L with
  | nil => simp
  | cons x r ih => simp only [List.map_cons, List.sum_cons, List.length_cons, List.flatten_cons, List.length_append, muRow_eq]; omega
theorem muTails_eq (T : List Tail) : T.length ≤ muTails T := by unfold muTails; rw [sum_ones]; omega
end Go.Proofs.Ytnfecdjcddidgaa
