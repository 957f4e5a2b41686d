/- The law's own function same. -/
import Derived.Test.YtnfecdjcddidgaaLawB
namespace Go.Proofs.Ytnfecdjcddidgaa
open Go.RowKit Go.Maps

theorem abs_ns {fs : List DF} {gs : List RF} (h : absd fs = rabs gs) : fs.map DF.n = gs.map RF.n := by
  have := congrArg (List.map PF.n) h
  simpa [absd, rabs, List.map_map, Function.comp_def, DF.abs, RF.abs] using this
theorem abs_len {fs : List DF} {gs : List RF} (h : absd fs = rabs gs) : fs.length = gs.length := by
  have := congrArg List.length h
  simpa [absd, rabs] using this

theorem strOfNums_bytes (xs : List UInt8) : strOfNums (xs.map fun b => (b.toNat : Int)) = strOf xs := by
  simp [strOfNums, strOf, Function.comp_def]
/-- Bytes that are read, as a string. -/
theorem conv_any {F : Nat → Prop} {w : World} {A : Option Addr} {c : Nat} {xs : List UInt8} (h : SC Rdr.byte F w A xs) : (convert 39 9 (.slice A xs.length c)).run Try.prog w = .ok (.string (strOf xs)) w := by
  have h39 : Try.prog.underlying 39 = some (.slice 5) := Try.underlying39
  have h5 : Try.prog.underlying 5 = some (.int .u8) := Try.underlying5
  have h9 : Try.prog.underlying 9 = some .string := Try.underlying9
  rcases Nat.eq_zero_or_pos xs.length with h0 | h0
  · obtain rfl : xs = [] := List.eq_nil_of_length_eq_zero h0
    rw [run_convert_bytes_string w 39 9 5 A _ c h39 h5 h9]
    cases A with
    | none => simp [Conv.bytesToString]; rfl
    | some a => rw [run_bytesToString w a _ c [] (by simp [loadCells, loadCellsFrom])]; rfl
  · obtain ⟨b, o, rfl, _, _⟩ := h h0
    have := run_convert_bytes_arg (P := Try.prog) w 39 5 h39 h5 b o xs.length c (xs.map fun b => (b.toNat : Int)) (by simp) (fun i hi => by
      obtain ⟨_, _, e, _, hc⟩ := h.byte hi
      cases e
      rw [hc]
      simp [List.getD, hi]) 9 h9
    rw [this, strOfNums_bytes]

set_option maxRecDepth 100000 in
set_option maxHeartbeats 4000000 in
theorem same_any {w : World} {d m r : Nat} {fs : List DF} {gs : List RF} {lv : Value} {s : DSt} (hD : Dr w d m fs s) (hR : Rf w r lv gs s) (he : absd fs = rabs gs) :
    Calls Try.prog 24 #[.pointer (some ⟨d, 0, none⟩), .pointer (some ⟨r, 0, none⟩)] w fun e w' => e = .returned (.bool true) ∧ Mod Nil w w' := by
  have hns := abs_ns he
  have hln := abs_len he
  have hcnt := hR.count
  have c3 : w.cell? ⟨r, 3, none⟩ = some (.bool s.dead) := heap_cell hR.st 3
  have c4 : w.cell? ⟨r, 4, none⟩ = some (.int .i64 s.ops) := heap_cell hR.st 4
  have hrlt : r < w.heap.size := heap_lt hR.st
  have HD := Lib.hid hD
  have HR := Lib.hid hR
  have HE := Lib.hid he
  have HNS := Lib.hid hns
  have HLN := Lib.hid hln
  clear hD hR he hns hln
  go_enter Try.func24, Try.ntmps24
  go_wp2
  refine wp_held [0, 2, 0, 2, 2, 0, 0, 0, 2, 0, 2, 0, 0, 0, 0, 2, 0, 0, 0, 3, 0, 0, 0, 0, 2, 0, 0, 0, 3, 0, 0] [2, 2, 1, 4, 2, 5, 9] [⟨19, 4, .tmp 28, ⟨r, 3, none⟩, .bool s.dead⟩, ⟨28, 3, .tmp 37, ⟨r, 4, none⟩, .int .i64 s.ops⟩] mixed (by kernel_rfl) (JH.cons c3 (JH.one c4)) ?_
  simp only [wpCut, List.take_succ_cons, List.take_zero, List.drop_succ_cons, List.drop_zero]
  have hm0 : Mod Nil w w.drew := (Mod.refl Nil w).drew
  have kp : ∀ {w' : World}, Mod Nil w w' → w'.cell? ⟨r, 3, none⟩ = some (.bool s.dead) ∧ w'.cell? ⟨r, 4, none⟩ = some (.int .i64 s.ops) := fun hm =>
    ⟨(World.cell?_of_block (hm.block r hrlt (fun h => h)) (a := ⟨r, 3, none⟩)).trans c3, (World.cell?_of_block (hm.block r hrlt (fun h => h)) (a := ⟨r, 4, none⟩)).trans c4⟩
  have KP := Lib.hid (fun w' (hm : Mod Nil w w') => kp hm)
  clear kp
  go_wp2_with fail
  refine (files_any (HD.out.kept hm0 fun k _ hk => hk)).mono ?_
  rintro e w1 ⟨v1, rfl, ho1, hm1⟩
  rw [HNS.out, HLN.out] at ho1
  have hM1 := hm0.then hm1
  have q1 := KP.out w1 hM1
  have HO1 := Lib.hid ho1
  have HM1 := Lib.hid hM1
  obtain ⟨A1, x1, rfl, _⟩ := own_form ho1
  clear hm0 hm1 hM1 ho1
  go_wp2_with fail
  refine nf_cut (JH.cons q1.1 (JH.one q1.2)) ?_
  go_wp2_with fail
  refine (rfiles_any (HR.out.kept HM1.out fun k _ hk => hk)).mono ?_
  rintro e w2 ⟨v2, rfl, ho2, hm2⟩
  have hM2 := HM1.out.then hm2
  have q2 := KP.out w2 hM2
  have ho1' := own_kept HO1.out hm2 (fun _ _ h => h)
  have hints := ints_same (l := gs.map RF.n) (by rw [List.length_map]; exact ho1') (by rw [List.length_map]; exact ho2) (by rw [List.length_map]; exact hcnt)
  obtain ⟨A2, x2, rfl, _⟩ := own_form ho2
  have HM2 := Lib.hid hM2
  clear hm2 hM2 ho1' ho2
  go_wp2_with fail
  refine nf_cut (JH.cons q2.1 (JH.one q2.2)) ?_
  go_wp2_with fail
  refine hints.mono ?_
  rintro e w3 ⟨rfl, hm3⟩
  have hM3 := HM2.out.then hm3
  have q3 := KP.out w3 hM3
  have HM3 := Lib.hid hM3
  have fr1 := free_any (HD.out.kept hM3 fun k _ hk => hk)
  have fr2 := rfree_any (HR.out.kept hM3 fun k _ hk => hk)
  have fr3 := dead_any (HD.out.kept hM3 fun k _ hk => hk)
  have fr4 := ops_any (HD.out.kept hM3 fun k _ hk => hk)
  clear hm3 hM3 hints
  go_wp2_with fail
  refine nf_cut (JH.cons q3.1 (JH.one q3.2)) ?_
  go_wp2_with fail
  refine fr1.mono ?_
  rintro e w4 ⟨rfl, rfl⟩
  go_wp2_with fail
  refine nf_cut (JH.cons q3.1 (JH.one q3.2)) ?_
  go_wp2_with fail
  refine fr2.mono ?_
  rintro e w4 ⟨rfl, rfl⟩
  go_wp2_with fail
  refine nf_cut (JH.cons q3.1 (JH.one q3.2)) ?_
  go_wp2_with fail
  refine fr3.mono ?_
  rintro e w4 ⟨rfl, rfl⟩
  go_wp2_with fail
  refine nf_cut (JH.cons q3.1 (JH.one q3.2)) ?_
  go_wp2_with fail
  refine fr4.mono ?_
  rintro e w4 ⟨rfl, rfl⟩
  go_wp2_with fail
  refine nf_cut (JH.cons q3.1 (JH.one q3.2)) ?_
  obtain ⟨q31, q32⟩ := q3
  go_wp2_with fail
  refine nf_last (by kernel_rfl) ⟨rfl, rfl, trivial⟩ ?_
  clear fr1 fr2 fr3 fr4 q1 q2
  go_wp2_with fail
  clear c3 c4 q31 q32
  go_loopw [5] (fun i wr => ∃ k : Nat, k ≤ 7 ∧ i = .int .i64 k ∧ Mod Nil w wr) (fun i _ => 7 - (intOf i).toNat)
  case atStart => exact ⟨0, by omega, rfl, HM3.out⟩
  case round =>
    obtain ⟨k, hk, rfl, hm⟩ := hrel
    by_cases hlt : k < 7
    · have HM := Lib.hid hm
      have hrd := read_any (HD.out.kept hm fun k _ hk => hk) k
      clear hm
      go_wp2_with fail
      refine hrd.mono ?_
      rintro e w5 ⟨va, rfl, hoa, hma⟩
      have hMa := HM.out.then hma
      have HMa := Lib.hid hMa
      have hrr := rread_any (HR.out.kept hMa fun k _ hk => hk) k
      rw [← HE.out] at hrr
      obtain ⟨Aa, xa, rfl, _⟩ := own_form hoa
      have HOa := Lib.hid hoa
      clear hma hMa hoa hrd
      go_wp2_with fail
      refine hrr.mono ?_
      rintro e w6 ⟨vb, Ab, xb, rfl, rfl, hxb, hSb, hmb⟩
      obtain ⟨A', x', ea, _, hSa⟩ := OB.reads (w := w5) (e := 5) (own_base (B' := 0) HOa.out (fun _ _ => Nat.zero_le _))
      cases ea
      have hcv1 := conv_any (c := xa) (hSa.kept (by decide) hmb (fun _ _ _ h => h))
      have hcv2 := conv_any (c := xb) hSb
      have HMb := Lib.hid (HMa.out.then hmb)
      have hnum := fun c => num_any c w6
      clear hSb hmb hrr hSa HOa
      generalize readF k (absd fs) s = rr at *
      go_wp2_with fail
      refine (hnum _).mono ?_
      rintro e w7 ⟨rfl, rfl⟩
      clear hcv1 hcv2 hnum
      go_wp2
      go_round
      case rel => exact ⟨k + 1, by omega, by go_num, HMb.out⟩
      case measure => simp [intOf]; omega
    · obtain rfl : k = 7 := by omega
      have HM := Lib.hid hm
      clear hm
      go_wp2
      go_ret
      exact ⟨rfl, HM.out⟩
end Go.Proofs.Ytnfecdjcddidgaa
