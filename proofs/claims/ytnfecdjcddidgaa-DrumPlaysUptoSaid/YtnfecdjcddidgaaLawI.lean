/- The law DrumPlays: the main loop. -/
import Derived.Test.YtnfecdjcddidgaaLawU
namespace Go.Proofs.Ytnfecdjcddidgaa
open Go.RowKit Go.Maps

/-- The loop's relation: k rounds are done. -/
def Playing (w0 : World) (d m r : Nat) (k : Nat) (wr : World) : Prop :=
  ∃ fs gs lv L s, Pairing w0 wr d m r fs gs lv L L s s ∧ (-9223372036854775808 ≤ s.left ∧ s.left ≤ 9223372036854775807) ∧ 0 ≤ s.ops ∧ s.ops ≤ k

theorem sum_mem' {α : Type} {f : α → Nat} {x : α} {l : List α} (h : x ∈ l) : f x ≤ (l.map f).sum := by
  induction l with
  | nil => cases h
  | cons y r ih =>
    simp only [List.map_cons, List.sum_cons]
    rcases List.mem_cons.1 h with rfl | h
    · omega
    · have := ih h; omega

set_option maxRecDepth 100000 in
set_option maxHeartbeats 16000000 in
theorem plays_main {w : World} {F : Nat → Prop} {A : Option Addr} {c : Nat} {l : List Act14} {room : Int} (hF : ∀ b, F b → b < w.heap.size) (hS : SC Ract F w A l) (hl : l.length ≤ 140737488351232) (hsh : ∀ a ∈ l, Fair a) (hyes : smallB l = true) (hr1 : 0 ≤ room) (hr2 : room ≤ 4194304) :
    Calls Try.prog 3 #[.int .i64 room, .slice A l.length c] w fun e w' => e = .returned (.bool true) ∧ Mod Nil w w' := by
  have hsm := small_any (c := c) hF hS hl (fun a ha => (hsh a ha).1)
  rw [hyes] at hsm
  have hLen : ∀ a ∈ l, a.L.length ≤ 20000 := fun a ha => by
    unfold smallB at hyes
    simp only [Bool.and_eq_true, decide_eq_true_eq] at hyes
    have h1 := hyes.2
    unfold actsN at h1
    rw [List.take_of_length_le (by omega)] at h1
    have h2 : actN a ≤ (l.map actN).sum := sum_mem' ha
    have h3 : a.L.length ≤ actN a := by unfold actN; omega
    omega
  have HLEN := Lib.hid hLen
  clear hLen
  have hl60 : l.length ≤ 60 := by
    unfold smallB at hyes
    simp only [Bool.and_eq_true, decide_eq_true_eq] at hyes
    exact hyes.1
  have HS := Lib.hid hS
  have HSH := Lib.hid hsh
  clear hS hsh hyes
  go_enter Try.func3, Try.ntmps3
  go_wp2_with fail
  refine hsm.mono ?_
  rintro e w1 ⟨rfl, hm1⟩
  have HM1 := Lib.hid hm1
  have hnew := new_ok room w1 hr1 hr2
  clear hm1 hsm
  go_wp2_with fail
  refine hnew.mono ?_
  rintro e w2 ⟨rfl, hD2, hm2⟩
  have HD2 := Lib.hid hD2
  have HM2 := Lib.hid hm2
  have href := ref_new room w2 hr1 hr2
  clear hD2 hm2 hnew
  go_wp2_with fail
  refine href.mono ?_
  rintro e w3 ⟨rfl, hR3, hm3⟩
  have hn3 := fun c => num_any c w3
  have hP : Playing w (w1.heap.size + 1) w1.heap.size w2.heap.size 0 w3 := by
    refine ⟨[], [], .slice none 0 0, [], newSt room, ⟨HD2.out.kept hm3 (fun _ _ h => h), hR3, rfl, rfl, fun k hk hr => ?_, fun k hk => ?_, fun k hk => ?_, (HM1.out.then HM2.out).then hm3⟩, by simp [newSt], by simp [newSt], by simp [newSt]⟩
    · have h1 := HD2.out.lt hk
      simp [Rf.foot, Value.ownBlock] at hr
      omega
    · simp [Dr.foot, dfoot] at hk
      have := HM1.out.size
      omega
    · simp [Rf.foot, Value.ownBlock] at hk
      have := HM1.out.size; have := HM2.out.size
      omega
  have HP := Lib.hid hP
  clear hP hR3 hm3 href
  go_wp2_with fail
  refine (hn3 _).mono ?_
  rintro e w3' ⟨rfl, rfl⟩
  clear hn3
  go_wp2_with fail
  go_loopw [8] (fun i wr => ∃ k : Nat, k ≤ l.length ∧ i = .int .i64 k ∧ Playing w (w1.heap.size + 1) w1.heap.size w2.heap.size k wr) (fun i _ => l.length - (intOf i).toNat)
  case atStart => exact ⟨0, Nat.zero_le _, rfl, HP.out⟩
  case round =>
    obtain ⟨k, hk, rfl, hp⟩ := hrel
    by_cases hlt : k < l.length
    · obtain ⟨fs, gs, lv, L, s, hp, hs1, hs2, hs3⟩ := hp
      have hm := hp.md
      obtain ⟨b, o, cs, rfl, hFb, ⟨Al, cl, At, ct, rfl, _, _, hNw, hL1, hT1, hSL, hST⟩, hcc⟩ := HS.out.at_ hlt
      have hfair := HSH.out l[k] (List.getElem_mem hlt)
      have hlen2 := HLEN.out l[k] (List.getElem_mem hlt)
      have q : ∀ x, wr.cell? ⟨b, x, none⟩ = w.cell? ⟨b, x, none⟩ := fun x => World.cell?_of_block (hm.block b (hF b hFb) (fun h => h))
      generalize hae : l[k] = a at *
      have c0 : wr.cell? ⟨b, o + k * 5, none⟩ = some (.int .i64 a.kind) := (q _).trans (hcc 0 _ rfl)
      have c1 : wr.cell? ⟨b, o + k * 5 + 1, none⟩ = some (.int .i64 a.file) := (q _).trans (hcc 1 _ rfl)
      have c2 : wr.cell? ⟨b, o + k * 5 + 2, none⟩ = some (.slice Al a.L.length cl) := (q _).trans (hcc 2 _ rfl)
      have c3 : wr.cell? ⟨b, o + k * 5 + 3, none⟩ = some (.int .i64 a.N) := (q _).trans (hcc 3 _ rfl)
      have c4 : wr.cell? ⟨b, o + k * 5 + 4, none⟩ = some (.slice At a.T.length ct) := (q _).trans (hcc 4 _ rfl)
      have hsane : Sane s := ⟨hs1, by omega⟩
      have HPr := Lib.hid (hp.kept (w' := wr.alloc (.cells #[.int .i64 a.kind, .int .i64 a.file, .slice Al a.L.length cl, .int .i64 a.N, .slice At a.T.length ct] 35 (0, 0))) ((Mod.refl Nil wr).alloc _))
      have HSL := Lib.hid hSL
      have HST := Lib.hid hST
      have HFair := Lib.hid hfair
      have HSane := Lib.hid hsane
      have hT := Lib.hid (heap_new wr (.cells #[.int .i64 a.kind, .int .i64 a.file, .slice Al a.L.length cl, .int .i64 a.N, .slice At a.T.length ct] 35 (0, 0)))
      have hfl : ∀ x ∈ Dr.foot (w1.heap.size + 1) w1.heap.size fs, x < wr.heap.size := fun x hx => hp.dr.lt hx
      have hrl : ∀ x ∈ Rf.foot w2.heap.size lv gs, x < wr.heap.size := fun x hx => hp.rf.lt hx
      have HMd := Lib.hid hm
      have HFL := Lib.hid hfl
      have HRL := Lib.hid hrl
      clear hp hcc q hSL hST hfair hsane hae hm hfl hrl
      by_cases hk1 : a.kind = 1
      · rw [hk1] at c0
        rw [hk1] at HPr hT
        clear hk1
        go_wp2_with fail
        refine (sync_any HPr.out.dr a.file HSane.out).mono ?_
        rintro e w5 ⟨rfl, hdid⟩
        rw [HPr.out.dl] at hdid ⊢
        obtain ⟨fs5, hp5⟩ := HPr.out.drum hdid
        have hTd : ¬ (wr.heap.size ∈ Dr.foot (w1.heap.size + 1) w1.heap.size fs) := fun hf => Nat.lt_irrefl _ (HFL.out _ hf)
        have hT5 : w5.heap[wr.heap.size]? = some (.cells #[.int .i64 1, .int .i64 a.file, .slice Al a.L.length cl, .int .i64 a.N, .slice At a.T.length ct] 35 (0, 0)) := by
          obtain ⟨_, _, _, hm, _⟩ := hdid
          exact heap_mod hT.out hm hTd
        have t1 := heap_cell hT5 1
        have hn5 := fun c => num_any c w5
        have HP5 := Lib.hid hp5
        have hrs := rsync_any hp5.rf a.file HSane.out
        rw [hp5.rl] at hrs
        clear hdid hp5
        go_wp2_with fail
        refine (hn5 _).mono ?_
        rintro e w5' ⟨rfl, rfl⟩
        clear hn5
        go_wp2_with fail
        refine hrs.mono ?_
        rintro e w6 ⟨rfl, hrd⟩
        obtain ⟨gs6, lv6, hp6⟩ := HP5.out.ref hrd
        have hsame := same_any hp6.dr hp6.rf (hp6.dl.trans hp6.rl.symm)
        have HP6 := Lib.hid hp6
        clear hrd hrs hp6
        go_wp2_with fail
        refine hsame.mono ?_
        rintro e w7 ⟨rfl, hm7⟩
        have hg := gated_bounds (n := a.file) (L := L) (F := syncF a.file L) hs1 hs2 (fun s => ⟨syncF_left .., syncF_ops ..⟩)
        have HQ : RowKit.Hid (Playing w (w1.heap.size + 1) w1.heap.size w2.heap.size (k + 1) w7) := Lib.hid ⟨fs5, gs6, lv6, _, _, HP6.out.kept hm7, hg.1, hg.2.1, by have := hg.2.2; omega⟩
        clear hsame hm7 hg
        go_wp2_with fail
        go_roundw
        case rel => exact ⟨k + 1, by omega, by go_num, HQ.out⟩
        case measure => simp [intOf]; omega
      · by_cases hk2 : a.kind = 2
        · rw [hk2] at c0
          rw [hk2] at HPr hT
          clear hk2
          go_wp2_with fail
          refine (del_any HPr.out.dr a.file HSane.out).mono ?_
          rintro e w5 ⟨rfl, hdid⟩
          rw [HPr.out.dl] at hdid ⊢
          obtain ⟨fs5, hp5⟩ := HPr.out.drum hdid
          have hTd : ¬ (wr.heap.size ∈ Dr.foot (w1.heap.size + 1) w1.heap.size fs) := fun hf => Nat.lt_irrefl _ (HFL.out _ hf)
          have hT5 : w5.heap[wr.heap.size]? = some (.cells #[.int .i64 2, .int .i64 a.file, .slice Al a.L.length cl, .int .i64 a.N, .slice At a.T.length ct] 35 (0, 0)) := by
            obtain ⟨_, _, _, hm, _⟩ := hdid
            exact heap_mod hT.out hm hTd
          have t1 := heap_cell hT5 1
          have hn5 := fun c => num_any c w5
          have HP5 := Lib.hid hp5
          have hrs := rdel_any hp5.rf a.file HSane.out
          rw [hp5.rl] at hrs
          clear hdid hp5
          go_wp2_with fail
          refine (hn5 _).mono ?_
          rintro e w5' ⟨rfl, rfl⟩
          clear hn5
          go_wp2_with fail
          refine hrs.mono ?_
          rintro e w6 ⟨rfl, hrd⟩
          obtain ⟨gs6, lv6, hp6⟩ := HP5.out.ref hrd
          have hsame := same_any hp6.dr hp6.rf (hp6.dl.trans hp6.rl.symm)
          have HP6 := Lib.hid hp6
          clear hrd hrs hp6
          go_wp2_with fail
          refine hsame.mono ?_
          rintro e w7 ⟨rfl, hm7⟩
          have hg := gated_bounds (n := a.file) (L := L) (F := delF a.file L) hs1 hs2 (fun s => ⟨delF_left .., delF_ops ..⟩)
          have HQ : RowKit.Hid (Playing w (w1.heap.size + 1) w1.heap.size w2.heap.size (k + 1) w7) := Lib.hid ⟨fs5, gs6, lv6, _, _, HP6.out.kept hm7, hg.1, hg.2.1, by have := hg.2.2; omega⟩
          clear hsame hm7 hg
          go_wp2_with fail
          go_roundw
          case rel => exact ⟨k + 1, by omega, by go_num, HQ.out⟩
          case measure => simp [intOf]; omega
        · by_cases hk0 : a.kind = 0
          · skip
            rw [hk0] at c0
            rw [hk0] at HPr hT
            clear hk0 hk1 hk2
            have hmW : Mod Nil w (wr.alloc (.cells #[.int .i64 0, .int .i64 a.file, .slice Al a.L.length cl, .int .i64 a.N, .slice At a.T.length ct] 35 (0, 0))) := HMd.out.then ((Mod.refl Nil wr).alloc _)
            have hsW : (wr.alloc (.cells #[.int .i64 0, .int .i64 a.file, .slice Al a.L.length cl, .int .i64 a.N, .slice At a.T.length ct] 35 (0, 0))).heap.size = wr.heap.size + 1 := World.size_alloc ..
            have HMW := Lib.hid hmW
            have hfl2 : a.L.flatten.length ≤ 1048576 := HFair.out.2
            obtain ⟨fl, hfl⟩ : ∃ fl, a.L.flatten = fl := ⟨_, rfl⟩
            have HFl := Lib.hid hfl
            rw [hfl] at hfl2
            clear hfl
            have hgiv := given_any F Al cl a.L (wr.alloc (.cells #[.int .i64 0, .int .i64 a.file, .slice Al a.L.length cl, .int .i64 a.N, .slice At a.T.length ct] 35 (0, 0))) (fun b hb => Nat.lt_of_lt_of_le (hF b hb) hmW.size) (HSL.out.kept (by decide) hmW (fun _ _ _ h => h)) (by rw [HFl.out]; omega) (by omega)
            rw [hsW] at hgiv
            clear hmW
            have HsW := Lib.hid hsW
            clear hsW
            go_wp2_with fail
            (with_reducible refine hgiv.mono ?_)
            rintro e w5 ⟨v5, rfl, hgb5, hm5⟩
            obtain ⟨A5, c5, rfl, hS5⟩ := hgb5.reads (fun x hx => by have := HFair.out.1.2.2 x hx; omega)
            have hsz5 : wr.heap.size + 1 ≤ w5.heap.size := by have := hm5.size; rw [HsW.out] at this; exact this
            have HGS5 := Lib.hid hgb5.some
            have HP5 := Lib.hid (HPr.out.kept hm5)
            have hT5 := heap_mod hT.out hm5 (fun h => h)
            have t1 := heap_cell hT5 1
            have HT5 := Lib.hid hT5
            have happ := app_any HP5.out.dr a.file HSane.out (c := c5) (fun b hb => hb.2) (fun h => by have := HFL.out _ foot_d; have := h.1; omega) hS5 (by rw [HFl.out]; omega) (by omega)
            rw [HPr.out.dl, HFl.out] at happ
            clear hgb5 hm5 hT5 hS5 hgiv
            go_wp2_with fail
            (with_reducible refine happ.mono ?_)
            rintro e w6 ⟨rfl, hdid⟩
            obtain ⟨fs6, hp6, hF6, hM6⟩ := HP5.out.drum' hdid
            have HG6 := Lib.hid (HGS5.out.kept hM6 (fun k hk hB => by have := HFL.out k hk; omega))
            have hT6 := heap_mod HT5.out hM6 (fun hf => Nat.lt_irrefl _ (HFL.out _ hf))
            have u1 := heap_cell hT6 1
            have u2 := heap_cell hT6 2
            have HT6 := Lib.hid hT6
            have HP6 := Lib.hid hp6
            have HF6 := Lib.hid hF6
            have hs6 : w5.heap.size ≤ w6.heap.size := hM6.size
            have hn6 := fun c => num_any c w6
            clear hdid hp6 hF6 hM6 hT6 happ t1
            go_wp2_with fail
            refine (hn6 _).mono ?_
            rintro e w6' ⟨rfl, rfl⟩
            clear hn6
            go_wp2_with fail
            refine wp_held [0, 0, 3, 0, 1, 2, 2, 0] [6, 1] [⟨2, 3, .tmp 73, ⟨wr.heap.size, 1, none⟩, .int .i64 a.file⟩] mixed (by kernel_rfl) (JH.one u1) ?_
            simp only [wpCut, List.take_succ_cons, List.take_zero, List.drop_succ_cons, List.drop_zero]
            have hwho := whole_any F Al cl a.L w6.drew (fun b hb => Nat.lt_of_lt_of_le (hF b hb) HP6.out.md.drew.size) (HSL.out.kept (by decide) HP6.out.md.drew (fun _ _ _ h => h)) (by rw [HFl.out]; omega) (by omega)
            rw [HFl.out] at hwho
            go_wp2_with fail
            (with_reducible refine hwho.mono ?_)
            rintro e w7 ⟨v7, rfl, ho7, hm7⟩
            have hm67 : Mod Nil w6 w7 := (Mod.refl Nil w6).drew.then hm7
            obtain ⟨A7, c7, hv7, hc7, hS7⟩ := OB.reads (w := w7) (e := 5) (v := v7) (xs := fl) (own_base (B' := 0) ho7 (fun _ _ => Nat.zero_le _))
            subst hv7
            have hT7 := heap_mod HT6.out hm67 (fun h => h)
            have q1 := heap_cell hT7 1
            have HT7 := Lib.hid hT7
            have HP7 := Lib.hid (HP6.out.kept hm67)
            have HG7 := Lib.hid (HG6.out.kept hm67 (fun _ h => h.elim))
            have hs7 : w6.heap.size ≤ w7.heap.size := hm67.size
            have hra := rapp_any HP7.out.rf a.file HSane.out (cb := c7) (fun b hb => ⟨(ho7.lt b hb).2, fun e => by have h1 := (ho7.lt b hb).1; have h2 := HRL.out _ foot_r; rw [World.size_drew] at h1; omega⟩) hS7 (by omega)
            rw [HPr.out.rl] at hra
            clear hwho ho7 hm7 hm67 hS7 hT7 u1 u2
            go_wp2_with fail
            refine nf_cut (JH.one q1) ?_
            go_wp2_with fail
            (with_reducible refine hra.mono ?_)
            rintro e w8 ⟨rfl, hrd⟩
            obtain ⟨gs8, lv8, hp8, hF8, hM8⟩ := HP7.out.ref' hrd
            have hT8 := heap_mod HT7.out hM8 (fun hf => Nat.lt_irrefl _ (HRL.out _ hf))
            have r1 := heap_cell hT8 1
            have HG8 := Lib.hid (HG7.out.kept hM8 (fun k hk hB => by have := HRL.out k hk; omega))
            have HP8 := Lib.hid hp8
            have HF8 := Lib.hid hF8
            clear hra hrd hp8 hF8 hM8 hT8 q1
            go_wp2_with fail
            refine nf_cut (JH.one r1) ?_
            go_wp2_with fail
            refine nf_last (by kernel_rfl) ⟨rfl, trivial⟩ ?_
            go_wp2_with fail
            obtain ⟨B, hB⟩ : ∃ B, wr.heap.size + 1 = B := ⟨_, rfl⟩
            obtain ⟨S, hS⟩ : ∃ S, w5.heap.size = S := ⟨_, rfl⟩
            have hg8 := HG8.out
            rw [hB, hS] at hg8
            have HAS : RowKit.Hid (∀ w', Mod (fun b => B ≤ b ∧ b < S) w8 w' → Pairing w w' (w1.heap.size + 1) w1.heap.size w2.heap.size fs6 gs8 lv8 (gated a.file L s (appF a.file fl L)).L (gated a.file L s (appF a.file fl L)).L (gated a.file L s (appF a.file fl L)).s (gated a.file L s (appF a.file fl L)).s) := Lib.hid fun w' hm' => HP8.out.aside hm' (fun k hk => by have := HMd.out.size; omega) (fun k hk hk2 => by
              rcases HF6.out k hk with h | h
              · have := HFL.out k h; omega
              · omega) (fun k hk hk2 => by
              rcases HF8.out k hk with h | h
              · have := HRL.out k h; omega
              · omega)
            have hrl2 : ∀ x ∈ a.L, x.length ≤ 1048576 := HFair.out.1.2.2
            have HRL2 := Lib.hid hrl2
            have HG9 := Lib.hid hg8
            have hkl : k < 61 := by omega
            clear hg8 hrl2 HG8 HP8 HF8 HF6 HT7 HP7 HG7 HG6 HT6 HP6 HT5 HGS5 HP5 r1 hB hS
            go_loopw [13] (fun q w' => ∃ i : Nat, i ≤ a.L.length ∧ q = .int .i64 i ∧ GS w' B S (.slice A5 a.L.length c5) a.L ∧ Mod (fun b => B ≤ b ∧ b < S) w8 w') (fun q _ => a.L.length - (intOf q).toNat)
            case atStart => exact ⟨0, Nat.zero_le _, rfl, HG9.out, Mod.refl _ _⟩
            case round =>
              obtain ⟨i, hi, rfl, hg, hm⟩ := hrel
              by_cases hlt2 : i < a.L.length
              · obtain ⟨g, Ap, cp, hA5, hgB, hgS, hci, hcp, hby⟩ := hg.at_ hlt2
                subst hA5
                have HG := Lib.hid hg
                have HM := Lib.hid hm
                have hbi := HRL2.out _ (List.getElem_mem hlt2)
                clear hg hm hci hby
                go_wp2_with fail
                go_loopw [14] (fun j w' => ∃ q : Nat, q ≤ a.L[i].length ∧ j = .int .i64 q ∧ GS w' B S (.slice (some ⟨g, 0, none⟩) a.L.length c5) a.L ∧ Mod (fun b => B ≤ b ∧ b < S) w8 w') (fun j _ => a.L[i].length - (intOf j).toNat)
                case atStart => exact ⟨0, Nat.zero_le _, rfl, HG.out, HM.out⟩
                case round =>
                  obtain ⟨q, hq, rfl, hg2, hm2⟩ := hrel
                  obtain ⟨g', Ap', cp', hA', _, _, hci, hcp', hby⟩ := hg2.at_ hlt2
                  cases hA'
                  have HG2 := Lib.hid hg2
                  have HM2 := Lib.hid hm2
                  by_cases hlt3 : q < a.L[i].length
                  · obtain ⟨qb, x, rfl, hB1, hS1, hcj, hfz⟩ := hby q hlt3
                    have hne := hg2.apart hlt2 hci hcj
                    have HNE := Lib.hid hne
                    have hg3 := (hg2.kept ((Mod.refl Nil _).drew) (fun _ h => h.elim)).turn qb q (x ^^^ 85) x hcj (fun e => hne (Option.some.inj e))
                    rw [← xor_85] at hg3
                    have HG3 := Lib.hid hg3
                    have HM3 := Lib.hid ((hm2.drew).setCell (p := ⟨qb, q, none⟩) (.inl ⟨hB1, hS1⟩) (.int .u8 (bits .xor .u8 (x.toNat : Int) 85)))
                    clear hg3 hby hg2 hm2 hne
                    go_wp2_with fail
                    refine wp_text mixed (by kernel_rfl) ?_
                    go_wp2
                    refine nf_end (by kernel_rfl) ?_
                    go_wp2
                    go_roundw
                    case rel => exact ⟨q + 1, by omega, by go_num, HG3.out, HM3.out⟩
                    case measure => simp [intOf]; omega
                  · obtain rfl : q = a.L[i].length := by omega
                    clear hby hg2 hm2
                    go_wp2
                    go_roundw
                    case rel => exact ⟨i + 1, by omega, by go_num, HG2.out, HM2.out⟩
                    case measure => simp [intOf]; omega
              · obtain rfl : i = a.L.length := by omega
                have hp9 := HAS.out _ hm
                have HP9 := Lib.hid hp9
                have hsame := same_any hp9.dr hp9.rf (hp9.dl.trans hp9.rl.symm)
                clear hg hm hp9
                go_wp2_with fail
                (with_reducible refine hsame.mono ?_)
                rintro e w10 ⟨rfl, hm10⟩
                have hg := gated_bounds (n := a.file) (L := L) (F := appF a.file fl L) hs1 hs2 (fun s => ⟨appF_left .., appF_ops ..⟩)
                have HQ : RowKit.Hid (Playing w (w1.heap.size + 1) w1.heap.size w2.heap.size (k + 1) w10) := Lib.hid ⟨fs6, gs8, lv8, _, _, HP9.out.kept hm10, hg.1, hg.2.1, by have := hg.2.2; omega⟩
                clear hsame hm10 hg
                go_wp2_with fail
                go_roundw
                case rel => exact ⟨k + 1, by omega, by go_num, HQ.out⟩
                case measure => simp [intOf]; omega
          · by_cases hk3 : a.kind = 3
            · rw [hk3] at c0
              rw [hk3] at HPr hT
              clear hk3 hk0 hk1 hk2
              go_wp2_with fail
              refine (arm_any HPr.out.dr a.N).mono ?_
              rintro e w5 ⟨rfl, hD5, hm5⟩
              have hTd : wr.heap.size ≠ w1.heap.size + 1 := fun hf => Nat.lt_irrefl _ (HFL.out _ (hf ▸ foot_d))
              have hT5 : w5.heap[wr.heap.size]? = some (.cells #[.int .i64 3, .int .i64 a.file, .slice Al a.L.length cl, .int .i64 a.N, .slice At a.T.length ct] 35 (0, 0)) := heap_mod hT.out hm5 hTd
              have t3 := heap_cell hT5 3
              have hp5 := HPr.out.drumCrash hD5 HPr.out.dl (hm5.mono fun k hk => .inl (hk ▸ foot_d)) (fun b hb => .inl hb)
              have r2 : w5.cell? ⟨w2.heap.size, 2, none⟩ = some (.int .i64 s.left) := heap_cell hp5.rf.st 2
              have z2 : w5.frozen? ⟨w2.heap.size, 2, none⟩ = false := heap_free hp5.rf.st 2
              have HP5 := Lib.hid hp5
              have hNw' := hNw
              clear hD5 hm5 hp5 hT5 hTd
              go_wp2_with fail
              have hmS : Mod (· = w2.heap.size) w5 (w5.setCell ⟨w2.heap.size, 2, none⟩ (.int .i64 a.N)) := (Mod.refl (· = w2.heap.size) w5).setCell (p := ⟨w2.heap.size, 2, none⟩) (.inl rfl) _
              have hR6 := HP5.out.rf.set (s' := { s with left := a.N }) hmS rfl (heap_setCell HP5.out.rf.st 2 _)
              have hp6 := HP5.out.refCrash' hR6 HP5.out.rl hmS
              have hsame := same_any hp6.dr hp6.rf (hp6.dl.trans hp6.rl.symm)
              have HP6 := Lib.hid hp6
              clear hp6 hR6 hmS
              refine hsame.mono ?_
              rintro e w7 ⟨rfl, hm7⟩
              have hbN := bounds_i64 hNw'
              have HQ : RowKit.Hid (Playing w (w1.heap.size + 1) w1.heap.size w2.heap.size (k + 1) w7) := Lib.hid ⟨fs, gs, lv, L, _, HP6.out.kept hm7, hbN, hs2, by show s.ops ≤ _; omega⟩
              clear hsame hm7
              go_wp2_with fail
              go_roundw
              case rel => exact ⟨k + 1, by omega, by go_num, HQ.out⟩
              case measure => simp [intOf]; omega
            · by_cases hk4 : a.kind = 4
              · skip
                rw [hk4] at c0
                rw [hk4] at HPr hT
                clear hk4 hk3 hk0 hk1 hk2
                have hmE : Mod Nil (wr.alloc (.cells #[.int .i64 4, .int .i64 a.file, .slice Al a.L.length cl, .int .i64 a.N, .slice At a.T.length ct] 35 (0, 0))) ((wr.alloc (.cells #[.int .i64 4, .int .i64 a.file, .slice Al a.L.length cl, .int .i64 a.N, .slice At a.T.length ct] 35 (0, 0))).alloc (.cells #[] 67 (0, 0))) := (Mod.refl Nil _).alloc _
                have hE0 := heap_new (wr.alloc (.cells #[.int .i64 4, .int .i64 a.file, .slice Al a.L.length cl, .int .i64 a.N, .slice At a.T.length ct] 35 (0, 0))) (.cells #[] 67 (0, 0))
                rw [World.size_alloc] at hE0
                have hown0 : ((wr.alloc (.cells #[.int .i64 4, .int .i64 a.file, .slice Al a.L.length cl, .int .i64 a.N, .slice At a.T.length ct] 35 (0, 0))).alloc (.cells #[] 67 (0, 0))).ownsRow (wr.heap.size + 1) 67 3 (.slice (some ⟨wr.heap.size + 1, 0, none⟩) 0 0) 0 [] :=
                  ⟨rfl, .inr ⟨_, 0, #[], rfl, Nat.le_refl _, hE0, Nat.le_refl _, by decide, rfl, rfl⟩⟩
                have hmW : Mod Nil w (wr.alloc (.cells #[.int .i64 4, .int .i64 a.file, .slice Al a.L.length cl, .int .i64 a.N, .slice At a.T.length ct] 35 (0, 0))) := HMd.out.then ((Mod.refl Nil wr).alloc _)
                have hrdT := tails_read (HST.out.kept (by decide) (hmW.then hmE) (fun _ _ _ h => h))
                have hbT : a.T.length ≤ 1048576 := HFair.out.1.2.1
                have hszE : wr.heap.size + 1 ≤ ((wr.alloc (.cells #[.int .i64 4, .int .i64 a.file, .slice Al a.L.length cl, .int .i64 a.N, .slice At a.T.length ct] 35 (0, 0))).alloc (.cells #[] 67 (0, 0))).heap.size := by simp only [World.size_alloc]; omega
                have hT2 := heap_alloc hT.out (.cells #[] 67 (0, 0))
                have HT2 := Lib.hid hT2
                have HME := Lib.hid hmE
                have HMW := Lib.hid hmW
                have hAt : At = none → a.T.length = 0 := fun e => by
                  rcases Nat.eq_zero_or_pos a.T.length with h | h
                  · exact h
                  · obtain ⟨b9, o9, e9, _⟩ := HST.out h; rw [e] at e9; cases e9
                have ht4 := heap_cell hT2 4
                clear hT2 hmE hmW
                go_wp2_with (at_builtin; refine wp_append rfl _ _ 33 67 rfl (.agg #[.int .i64 0, .int .i64 0, .int .u8 0]) 3 24 Try.underlying33 info67 rfl (by omega) (by omega) (wr.heap.size + 1) (.slice (some ⟨wr.heap.size + 1, 0, none⟩) 0 0) 0 [] rfl hown0 At a.T.length ct (tcells a.T) rfl (tcells_length _) hAt hrdT (tcells_one _) (by omega) hszE ?_; intro v5 w5 hown5 hg5 hb5 hn5; rw [Nat.zero_add, List.nil_append] at hown5; have H5 := Lib.hid (tails_own hown5 (fun i hi => tails_wf HST.out hi)); have HM5 := Lib.hid (HME.out.grown hg5 (fun q hq => .inr (by have h9 : wr.heap.size + 1 = q := Option.some.inj hq; simp only [World.size_alloc]; omega))); obtain ⟨A5, c5, hv5, hS5⟩ := H5.out; subst hv5; have HS5 := Lib.hid hS5; clear hown5 hg5 hb5 hn5 hS5 H5)
                have hlt5 : ∀ b ∈ Dr.foot (w1.heap.size + 1) w1.heap.size fs, b < wr.heap.size := HFL.out
                refine (crash_any (HPr.out.dr.kept HM5.out (fun _ _ h => h)) (c := c5) (fun b hb => hb.2) (fun b hb hf => by have := HFL.out b hf; have := hb.1; omega) HS5.out (by omega)).mono ?_
                rintro e w6 ⟨rfl, fs6, hD6, hL6, hM6, hF6⟩
                have hp6 := (HPr.out.kept HM5.out).drumCrash hD6 hL6 hM6 hF6
                have hT6 : w6.heap[wr.heap.size]? = some _ := heap_mod (heap_mod hT.out HM5.out (fun h => h)) hM6 (fun hf => Nat.lt_irrefl _ (HFL.out _ hf))
                have t4 := heap_cell hT6 4
                have HP6 := Lib.hid hp6
                have hrc := rcrash_any hp6.rf (F := F) (At := At) (ct := ct) (ts := a.T) (fun b hb => ⟨Nat.lt_of_lt_of_le (hF b hb) hp6.md.size, fun e => by have := hp6.rnew _ foot_r; have := hF b hb; omega⟩) (HST.out.kept (by decide) hp6.md (fun _ _ _ h => h)) (by omega)
                clear hlt5 hD6 hL6 hM6 hF6 hp6 hT6
                go_wp2_with fail
                refine hrc.mono ?_
                rintro e w7 ⟨rfl, lv7, gs7, hR7, hL7, hM7, hF7⟩
                have hp7 := HP6.out.refCrash hR7 hL7 hM7 hF7
                rw [HP6.out.rl, HPr.out.dl] at hp7
                have HP7 := Lib.hid hp7
                have hsame := same_any hp7.dr hp7.rf (hp7.dl.trans hp7.rl.symm)
                clear hR7 hL7 hM7 hF7 hp7 hrc
                go_wp2_with fail
                refine hsame.mono ?_
                rintro e w8 ⟨rfl, hm8⟩
                have HQ : RowKit.Hid (Playing w (w1.heap.size + 1) w1.heap.size w2.heap.size (k + 1) w8) := Lib.hid ⟨fs6, gs7, lv7, _, _, HP7.out.kept hm8, by simp only [crashF]; omega, hs2, by show s.ops ≤ _; omega⟩
                clear hsame hm8
                go_wp2_with fail
                go_roundw
                case rel => exact ⟨k + 1, by omega, by go_num, HQ.out⟩
                case measure => simp [intOf]; omega
              · have f0 : (a.kind == 0) = false := by simpa using hk0
                have f1 : (a.kind == 1) = false := by simpa using hk1
                have f2 : (a.kind == 2) = false := by simpa using hk2
                have f3 : (a.kind == 3) = false := by simpa using hk3
                have f4 : (a.kind == 4) = false := by simpa using hk4
                have hsame := same_any HPr.out.dr HPr.out.rf (HPr.out.dl.trans HPr.out.rl.symm)
                clear hk0 hk1 hk2 hk3 hk4
                go_wp2_with fail
                refine hsame.mono ?_
                rintro e w7 ⟨rfl, hm7⟩
                have HQ : RowKit.Hid (Playing w (w1.heap.size + 1) w1.heap.size w2.heap.size (k + 1) w7) := Lib.hid ⟨fs, gs, lv, L, s, HPr.out.kept hm7, hs1, hs2, by omega⟩
                clear hsame hm7
                go_wp2_with fail
                go_roundw
                case rel => exact ⟨k + 1, by omega, by go_num, HQ.out⟩
                case measure => simp [intOf]; omega
    · obtain rfl : k = l.length := by omega
      obtain ⟨fs, gs, lv, L, s, hp, _, _, _⟩ := hp
      have HMr := Lib.hid hp.md
      have hlv := live_any wr
      clear hp
      go_wp2_with fail
      refine hlv.mono ?_
      rintro e w9 ⟨rfl, hm9⟩
      have HM9 := Lib.hid (HMr.out.then hm9)
      clear hm9 hlv
      go_wp2
      go_ret
      exact ⟨rfl, HM9.out⟩
end Go.Proofs.Ytnfecdjcddidgaa

