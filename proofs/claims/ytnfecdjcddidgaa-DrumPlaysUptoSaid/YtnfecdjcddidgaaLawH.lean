/- The law DrumPlays: the walk. -/
import Derived.Test.YtnfecdjcddidgaaLawG
namespace Go.Proofs.Ytnfecdjcddidgaa
open Go.RowKit Go.Maps

/-- What bulk says of an act. -/
def Fair (a : Act14) : Prop := Short 1048576 a ∧ a.L.flatten.length ≤ 1048576

set_option maxRecDepth 100000 in
set_option maxHeartbeats 4000000 in
theorem plays_small {w : World} {F : Nat → Prop} {A : Option Addr} {c : Nat} {l : List Act14} {room : Int} (hF : ∀ b, F b → b < w.heap.size) (hS : SC Ract F w A l) (hl : l.length ≤ 140737488351232) (hsh : ∀ a ∈ l, Fair a) (hno : smallB l = false) :
    Calls Try.prog 3 #[.int .i64 room, .slice A l.length c] w fun e w' => e = .returned (.bool true) ∧ Mod Nil w w' := by
  have hsm := small_any (c := c) hF hS hl (fun a ha => (hsh a ha).1)
  rw [hno] at hsm
  clear hS hsh hno
  go_enter Try.func3, Try.ntmps3
  go_wp2_with fail
  refine hsm.mono ?_
  rintro e w1 ⟨rfl, hm1⟩
  have HM1 := Lib.hid hm1
  have hlv := live_any w1
  clear hm1 hsm
  go_wp2_with fail
  refine hlv.mono ?_
  rintro e w2 ⟨rfl, hm2⟩
  have HM2 := Lib.hid (HM1.out.then hm2)
  clear hm2 hlv
  go_wp2
  go_ret
  exact ⟨rfl, HM2.out⟩

set_option maxRecDepth 100000 in
set_option maxHeartbeats 4000000 in
theorem plays_room {w : World} {F : Nat → Prop} {A : Option Addr} {c : Nat} {l : List Act14} {room : Int} (hF : ∀ b, F b → b < w.heap.size) (hS : SC Ract F w A l) (hl : l.length ≤ 140737488351232) (hsh : ∀ a ∈ l, Fair a) (hyes : smallB l = true) (hr : room < 0 ∨ 4194304 < room) :
    Calls Try.prog 3 #[.int .i64 room, .slice A l.length c] w fun e w' => e = .returned (.bool true) ∧ Mod Nil w w' := by
  have hsm := small_any (c := c) hF hS hl (fun a ha => (hsh a ha).1)
  rw [hyes] at hsm
  clear hS hsh hyes
  by_cases h1 : room < 0
  · go_enter Try.func3, Try.ntmps3
    go_wp2_with fail
    refine hsm.mono ?_
    rintro e w1 ⟨rfl, hm1⟩
    have HM1 := Lib.hid hm1
    have hlv := live_any w1
    have hnew := new_bad room w1 hr
    have hn1 := fun c => num_any c w1
    clear hm1 hsm
    go_wp2_with fail
    refine hnew.mono ?_
    rintro e w1' ⟨rfl, rfl⟩
    go_wp2_with fail
    refine (hn1 _).mono ?_
    rintro e w1' ⟨rfl, rfl⟩
    clear hnew hn1
    go_wp2_with fail
    refine hlv.mono ?_
    rintro e w2 ⟨rfl, hm2⟩
    have HM2 := Lib.hid (HM1.out.then hm2)
    clear hm2 hlv
    go_wp2
    go_ret
    exact ⟨rfl, HM2.out⟩
  · have h2 : 4194304 < room := by omega
    go_enter Try.func3, Try.ntmps3
    go_wp2_with fail
    refine hsm.mono ?_
    rintro e w1 ⟨rfl, hm1⟩
    have HM1 := Lib.hid hm1
    have hlv := live_any w1
    have hnew := new_bad room w1 hr
    have hn1 := fun c => num_any c w1
    clear hm1 hsm
    go_wp2_with fail
    refine hnew.mono ?_
    rintro e w1' ⟨rfl, rfl⟩
    go_wp2_with fail
    refine (hn1 _).mono ?_
    rintro e w1' ⟨rfl, rfl⟩
    clear hnew hn1
    go_wp2_with fail
    refine hlv.mono ?_
    rintro e w2 ⟨rfl, hm2⟩
    have HM2 := Lib.hid (HM1.out.then hm2)
    clear hm2 hlv
    go_wp2
    go_ret
    exact ⟨rfl, HM2.out⟩
end Go.Proofs.Ytnfecdjcddidgaa
