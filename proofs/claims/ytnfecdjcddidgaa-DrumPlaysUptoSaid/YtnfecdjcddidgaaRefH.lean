/- The document's drum: Append as a whole. -/
import Derived.Test.YtnfecdjcddidgaaRefG
namespace Go.Proofs.Ytnfecdjcddidgaa
open Go.RowKit Go.Maps

theorem gcode_rng {n : Int} {s : DSt} (h : gcode n s = 0) : 1 ≤ n ∧ n ≤ 1000 := by
  unfold gcode at h
  split at h
  · cases h
  · omega

set_option maxRecDepth 100000 in
set_option maxHeartbeats 2000000 in
theorem rapp_any {w : World} {r : Nat} {lv : Value} {fs : List RF} {s : DSt} (h : Rf w r lv fs s) (n : Int) (hf : Sane s) {F : Nat → Prop} {Ab : Option Addr} {cb : Nat} {bs : List UInt8}
    (hF : ∀ b, F b → b < w.heap.size ∧ b ≠ r) (hS : SC Rdr.byte F w Ab bs) (hbs : bs.length ≤ 140737488355328) :
    Calls Try.prog 15 #[.pointer (some ⟨r, 0, none⟩), .int .i64 n, .slice Ab bs.length cb] w (RRet r lv fs w (gated n (rabs fs) s (appF n bs (rabs fs)))) := by
  rw [gated_of]
  by_cases hc : gcode n s = 0
  · rw [if_pos hc]
    by_cases hfull : s.free < bs.length
    · have hbeg := begin_any h n hf.l
      rw [hc] at hbeg
      have e1 : bump (appF n bs (rabs fs) (gst n s)) = ⟨5, rabs fs, gst n s⟩ := by
        rw [appF, if_pos (by rw [gst_free]; exact hfull)]; rfl
      rw [e1]
      have hrm := h.room
      clear h hf hc e1 hS hF
      go_enter Try.func15, Try.ntmps15
      go_wp2_with fail
      refine hbeg.mono ?_
      rintro e w1 ⟨rfl, hR1, hm1⟩
      have hfree := rfree_any hR1
      rw [gst_free] at hfree
      have HF := Lib.hid (rnone hR1 hm1 5)
      clear hR1 hm1 hbeg
      go_wp2_with fail
      refine hfree.mono ?_
      rintro e w1' ⟨rfl, rfl⟩
      clear hfree
      go_wp2
      go_ret
      exact ⟨rfl, HF.out⟩
    · rcases rsplit n h.sorted with ⟨fs1, f, fs2, rfl, rfl, l1, l2⟩ | ⟨fs1, fs2, rfl, l1, l2⟩
      · exact rapp_hit h l1 l2 hf hc hF hS (by omega)
      · exact rapp_new h n (gcode_rng hc) l1 l2 hf hc hF hS (by omega)
  · rw [if_neg hc]
    have hbeg := begin_any h n hf.l
    have hc' : (gcode n s == 0) = false := by simpa using hc
    clear h hf hS hF
    go_enter Try.func15, Try.ntmps15
    go_wp2_with fail
    refine hbeg.mono ?_
    rintro e w1 ⟨rfl, hR1, hm1⟩
    have HF := Lib.hid (rnone hR1 hm1 (gcode n s))
    clear hR1 hm1 hbeg
    go_wp2
    go_ret
    exact ⟨rfl, HF.out⟩
end Go.Proofs.Ytnfecdjcddidgaa
