/-
  WHAT IS FLUSHED STAYS, WHAT IS NOT IS LOST (the law's own look).
  No condition.
-/
import Derived.Test.YtpknhgimcabfcaaDvJ
namespace Go.Proofs.Ytpknhgimcabfcaa.Dv
open Go.RowKit Go.Proofs.Om Go.Proofs.Ytpknhgimcabfcaa.Srt Go.Proofs.Ytpknhgimcabfcaa.Keys

theorem sec_size (c : Int) : (sec c).size = 128 := by
  simp [sec, ByteArray.size]
theorem mix_zero (s o : ByteArray) (ho : o.size = 128) : mix 0 s o = o := by
  unfold mix
  have h1 : s.extract 0 0 = ByteArray.empty := by simp
  have h2 : o.extract 0 128 = o := by rw [← ho]; simp
  rw [h1, h2]
  simp

theorem foot_ge {q : Pl} {v : Value} {n : Nat} (h : ∀ j ∈ q.foot, n ≤ j) (hv : v.ownBlock = q.fv.ownBlock) : ∀ j ∈ (q.withF v).foot, n ≤ j := by
  rw [foot_withF hv]; exact h
theorem mod_dev {w w1 w2 : World} {q : Pl} (h : Mod [] w w1) (k : Mod q.foot w1 w2) (hf : ∀ j ∈ q.foot, w.heap.size ≤ j) : Mod [] w w2 :=
  h.then k (fun j hj hl => by have := hf j hj; omega)

theorem aw1 : (newD 2).write 0 (sec 97) = (⟨[sec 0, sec 0], [(0, sec 97)], 1, [], false⟩, 0) := by
  simp [DevS.write, DevS.step, newD, sec_size, put, List.replicate]
theorem aw2 : (⟨[sec 0, sec 0], [(0, sec 97)], 1, [], false⟩ : DevS).flush = (⟨[sec 97, sec 0], [], 2, [], false⟩, 0) := by
  simp [DevS.flush, DevS.step, flushL]
theorem aw3 : (⟨[sec 97, sec 0], [], 2, [], false⟩ : DevS).write 1 (sec 98) = (⟨[sec 97, sec 0], [(1, sec 98)], 3, [], false⟩, 0) := by
  simp [DevS.write, DevS.step, sec_size, put]
theorem bit00 : bit 0 0 = true := by kernel_rfl
theorem aw4 : (⟨[sec 97, sec 0], [(1, sec 98)], 3, [], false⟩ : DevS).crash 0 0 = ⟨[sec 97, sec 0], [], 3, [], true⟩ := by
  have hl : lim 0 = 0 := rfl
  simp [DevS.crash, crashGo, bit00, hl, mix_zero, sec_size]
theorem aw5 : (⟨[sec 97, sec 0], [], 3, [], false⟩ : DevS).read 0 = (sec 97, 0) := by
  simp [DevS.read, Om.get]
theorem aw6 : (⟨[sec 97, sec 0], [], 3, [], false⟩ : DevS).read 1 = (sec 0, 0) := by
  simp [DevS.read, Om.get]
theorem ok_new (n : Nat) (h : n ≤ 65536) : (newD n).Ok := ⟨fun s hs => by simp [newD] at hs; rw [hs.2]; exact sec_size 0, fun p hp => by simp [newD] at hp, by simpa [newD] using h⟩
theorem okA (k : Nat) (c : List (Int × ByteArray)) (hc : ∀ p ∈ c, 0 ≤ p.1 ∧ p.1 < 2 ∧ p.2.size = 128) (x : Int) (off : Bool) : (⟨[sec x, sec 0], c, k, [], off⟩ : DevS).Ok :=
  ⟨fun s hs => by simp at hs; rcases hs with rfl | rfl <;> exact sec_size _, fun p hp => by simpa using hc p hp, by simp⟩

set_option maxRecDepth 100000 in
set_option maxHeartbeats 1000000 in
theorem awake_calls (w : World) : Calls Try.prog 8 #[] w fun e w' => e = .returned (.bool true) ∧ Mod [] w w' := by
  have s1 : ((sec 97).toList == (sec 97).toList) = true := str_yes rfl
  have s2 : ((sec 0).toList == (sec 0).toList) = true := str_yes rfl
  have hsec := fun c h0 h1 w => hid (sector_calls c h0 h1 w)
  have HSec := hid hsec
  clear hsec
  have tok0 := hid trivial
  go_enter Try.func8, Try.ntmps8
  go_wp2_with (first
    | (go_at_call 6; clear tok0; refine (new_calls 2 (by omega) _).mono ?_; rintro e w1 ⟨q, rfl, hd, hq, hm⟩; have HD1 := hid hd; have HQ1 := hid hq; have HM1 := hid hm; clear hd hq hm; have tok1 := hid trivial)
    | (go_at_call 16; clear tok1; refine ((HSec.out 97 (by omega) (by omega) _).out).mono ?_; rintro e w2 ⟨rfl, hm⟩; have HD2 := hid (HD1.out.mod0 hm); have HM2 := hid (HM1.out.trans hm); clear hm; have tok2 := hid trivial)
    | (go_at_call 15; clear tok2; have hc := write_calls q _ 0 (sec 97) _ HD2.out (ok_new 2 (by omega)) (by simp [newD]) (by simp [newD]); rw [aw1] at hc; refine hc.mono ?_; clear hc; rintro e w3 ⟨rfl, v3, hv, hd, hm⟩; have HD3 := hid hd; have HQ3 := hid (foot_ge HQ1.out hv); have HM3 := hid (mod_dev HM2.out hm HQ1.out); clear hd hv hm; have tok3 := hid trivial)
    | (go_at_call 17; clear tok3; have hc := flush_calls (q.withF v3) _ _ HD3.out ⟨by simp [sec_size], by simp [sec_size], by simp⟩ (by simp) (by simp); rw [aw2] at hc; refine hc.mono ?_; clear hc; rintro e w4 ⟨rfl, v4, hv, hd, hm⟩; have HD4 := hid hd; have HQ4 := hid (foot_ge HQ3.out hv); have HM4 := hid (mod_dev HM3.out hm HQ3.out); clear hd hv hm; have tok4 := hid trivial)
    | (go_at_call 16; clear tok4; refine ((HSec.out 98 (by omega) (by omega) _).out).mono ?_; rintro e w5 ⟨rfl, hm⟩; have HD5 := hid (HD4.out.mod0 hm); have HM5 := hid (HM4.out.trans hm); clear hm; have tok5 := hid trivial)
    | (go_at_call 15; clear tok5; have hc := write_calls _ _ 1 (sec 98) _ HD5.out (okA 2 [] (by simp) 97 false) (by simp) (by simp); rw [aw3] at hc; refine hc.mono ?_; clear hc; rintro e w6 ⟨rfl, v6, hv, hd, hm⟩; have HD6 := hid hd; have HQ6 := hid (foot_ge HQ4.out hv); have HM6 := hid (mod_dev HM5.out hm HQ4.out); clear hd hv hm; have tok6 := hid trivial)
    | (go_at_call 11; clear tok6; have hc := crash_calls _ _ 0 0 _ HD6.out (okA 3 [(1, sec 98)] (by simp [sec_size]) 97 false); rw [aw4] at hc; refine hc.mono ?_; clear hc; rintro e w7 ⟨rfl, hd, hm⟩; have HD7 := hid hd; have HM7 := hid (mod_dev HM6.out hm HQ6.out); clear hd hm; have tok7 := hid trivial)
    | (go_at_call 19; clear tok7; refine (up_calls _ _ _ HD7.out).mono ?_; rintro e w8 ⟨rfl, hd, hm⟩; have HD8 := hid hd; have HM8 := hid (HM7.out.then hm (fun j hj hl => by simp at hj; have := HQ6.out j (mem_foot.2 (.inl hj)); omega)); clear hd hm; have tok8 := hid trivial)
    | (go_at_call 13; clear tok8; have hc := read_calls _ _ 0 _ HD8.out; rw [aw5] at hc; refine hc.mono ?_; clear hc; rintro e w9 ⟨rfl, hw⟩; obtain rfl := hw.symm; have tok9 := hid trivial)
    | (go_at_call 13; clear tok9; have hc := read_calls _ _ 1 _ HD8.out; rw [aw6] at hc; refine hc.mono ?_; clear hc; rintro e w9 ⟨rfl, hw⟩; obtain rfl := hw.symm; have tok10 := hid trivial)
    | (go_at_call 16; clear tok10; refine ((HSec.out 97 (by omega) (by omega) _).out).mono ?_; rintro e w11 ⟨rfl, hm⟩; have HM11 := hid (HM8.out.trans hm); clear hm; have tok11 := hid trivial)
    | (go_at_call 16; clear tok11; refine ((HSec.out 0 (by omega) (by omega) _).out).mono ?_; rintro e w12 ⟨rfl, hm⟩; have HM12 := hid (HM11.out.trans hm); clear hm; have tok12 := hid trivial))
  go_ret
  exact ⟨rfl, HM12.out⟩
end Go.Proofs.Ytpknhgimcabfcaa.Dv
