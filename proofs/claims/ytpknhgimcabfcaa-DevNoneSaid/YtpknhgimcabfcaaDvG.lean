/-
  WRITE, READ, FLUSH OF A DEVICE.
  Condition: at most one loss of power is planned.
-/
import Derived.Test.YtpknhgimcabfcaaDvF
import Derived.Test.YtpknhgimcabfcaaOIter
import Derived.Deep.LoopGhost
namespace Go.Proofs.Ytpknhgimcabfcaa.Dv
open Go.RowKit Go.Proofs.Om Go.Proofs.Ytpknhgimcabfcaa.Srt Go.Proofs.Ytpknhgimcabfcaa.Keys

def DevS.write (D : DevS) (at' : Int) (s : ByteArray) : DevS × Int :=
  if D.off = true then (D, 7) else if at' < 0 ∨ (D.sure.length : Int) ≤ at' ∨ s.size ≠ 128 then (D, 1) else
    if D.step.2 = 0 then ({ D.step.1 with cache := put at' s D.step.1.cache }, 0) else (D.step.1, D.step.2)
def DevS.read (D : DevS) (at' : Int) : ByteArray × Int :=
  if D.off = true then (⟨#[]⟩, 7) else if at' < 0 ∨ (D.sure.length : Int) ≤ at' then (⟨#[]⟩, 1) else
    match get at' D.cache with
    | some s => (s, 0)
    | none => (D.sure.getD at'.toNat ⟨#[]⟩, 0)

theorem step_cases (D : DevS) : (D.step.2 = 0 ∧ D.step.1 = { D with steps := D.steps + 1 }) ∨ (D.step.2 = 7 ∧ ∃ f : Fl, D.step.1 = ({ D with falls := [] } : DevS).crash f.keep f.torn) := by
  obtain ⟨sure, cache, steps, falls, off⟩ := D
  cases falls with
  | nil => exact .inl ⟨rfl, rfl⟩
  | cons f r =>
    unfold DevS.step
    dsimp only
    split
    · exact .inr ⟨rfl, f, rfl⟩
    · exact .inl ⟨rfl, rfl⟩

theorem withF_p (q : Pl) (v : Value) : (q.withF v).p = q.p := rfl

set_option maxHeartbeats 1000000 in
theorem write_calls (q : Pl) (D : DevS) (at' : Int) (s : ByteArray) (w : World) (h : DevAt w q D) (hok : D.Ok) (hf : D.falls.length ≤ 1) (hs : D.steps < 4611686018427387904) :
    Calls Try.prog 15 #[.pointer (some ⟨q.p, 0, none⟩), .int .i64 at', .string s] w fun e w' => e = .returned (.int .i64 (D.write at' s).2) ∧ ∃ v, v.ownBlock = q.fv.ownBlock ∧ DevAt w' (q.withF v) (D.write at' s).1 ∧ Mod q.foot w w' := by
  have HD := hid h
  have HS := hid (step_calls q D w h hok hf hs)
  have HO := hid (off_calls q D w h)
  obtain ⟨A, cap, e0, _⟩ := h.2.1.form
  have c0 := h.c0
  rw [e0] at c0
  cases ho : D.off with
  | true =>
    have hw : D.write at' s = (D, 7) := by unfold DevS.write; rw [if_pos ho]
    rw [hw]
    rw [ho] at HO
    clear h hf hs ho hw
    go_enter Try.func15, Try.ntmps15
    go_wp2_with (first | (go_at_call 18; refine HO.out.mono ?_; rintro e w' ⟨rfl, hw⟩; obtain rfl := hw.symm))
    go_ret
    exact ⟨rfl, q.fv, rfl, HD.out, Mod.refl _ _⟩
  | false =>
    rw [ho] at HO
    have hno : ¬ D.off = true := by rw [ho]; decide
    by_cases hbad : at' < 0 ∨ (D.sure.length : Int) ≤ at' ∨ s.size ≠ 128
    · have hw : D.write at' s = (D, 1) := by unfold DevS.write; rw [if_neg hno, if_pos hbad]
      rw [hw]
      clear hw hf hs ho hno
      by_cases b1 : at' < 0
      · have q1 : decide (at' < 0) = true := by simpa using b1
        clear h
        go_enter Try.func15, Try.ntmps15
        go_wp2_with (first | (go_at_call 18; refine HO.out.mono ?_; rintro e w' ⟨rfl, hw⟩; obtain rfl := hw.symm))
        go_ret
        exact ⟨rfl, q.fv, rfl, HD.out, Mod.refl _ _⟩
      · have q1 : decide (at' < 0) = false := by simpa using b1
        by_cases b2 : (D.sure.length : Int) ≤ at'
        · have q2 : decide ((D.sure.length : Int) ≤ at') = true := by simpa using b2
          clear h
          go_enter Try.func15, Try.ntmps15
          go_wp2_with (first | (go_at_call 18; refine HO.out.mono ?_; rintro e w' ⟨rfl, hw⟩; obtain rfl := hw.symm))
          go_ret
          exact ⟨rfl, q.fv, rfl, HD.out, Mod.refl _ _⟩
        · have q2 : decide ((D.sure.length : Int) ≤ at') = false := by simpa using b2
          have b3 : s.size ≠ 128 := by rcases hbad with h | h | h <;> omega
          have q3 : ((s.size : Int) != 128) = true := by simp; omega
          clear h hbad
          go_enter Try.func15, Try.ntmps15
          go_wp2_with (first | (go_at_call 18; refine HO.out.mono ?_; rintro e w' ⟨rfl, hw⟩; obtain rfl := hw.symm))
          go_ret
          exact ⟨rfl, q.fv, rfl, HD.out, Mod.refl _ _⟩
    · have q1 : decide (at' < 0) = false := by simp; omega
      have q2 : decide ((D.sure.length : Int) ≤ at') = false := by simp; omega
      have hsz : s.size = 128 := by omega
      have q3 : ((s.size : Int) != 128) = false := by rw [hsz]; rfl
      rcases step_cases D with ⟨z, z1⟩ | ⟨z, f, z1⟩
      · have hw : D.write at' s = ({ D.step.1 with cache := put at' s D.step.1.cache }, 0) := by unfold DevS.write; rw [if_neg hno, if_neg hbad, if_pos z]
        rw [hw]
        rw [z] at HS
        clear hw hbad h hf hs ho hno z z1 hsz
        go_enter Try.func15, Try.ntmps15
        go_wp2_with (first
          | (go_at_call 18; refine HO.out.mono ?_; rintro e w' ⟨rfl, hw⟩; obtain rfl := hw.symm)
          | (go_at_call 33; refine HS.out.mono ?_; rintro e w1 ⟨rfl, v, hv, hd, hm⟩; have HD1 := hid hd; have HM1 := hid hm; have c1 := hd.c1; rw [withF_p] at c1; clear hd hm)
          | (at_mapUpdate; refine wpList_store_at rfl _ _ _ _ rfl Try.underlying56 Try.underlying3 HD1.out.2.2.1 rfl at' rfl s rfl ?_; intro w2 hM hB))
        go_ret
        exact ⟨rfl, v, hv, HD1.out.setCache hB hM, HM1.out.but hB (fun _ => mem_foot.2 (.inr (.inl rfl)))⟩
      · have hw : D.write at' s = (D.step.1, 7) := by unfold DevS.write; rw [if_neg hno, if_neg hbad, if_neg (by rw [z]; decide), z]
        rw [hw]
        rw [z] at HS
        clear hw hbad h hf hs ho hno z z1 hsz
        go_enter Try.func15, Try.ntmps15
        go_wp2_with (first
          | (go_at_call 18; refine HO.out.mono ?_; rintro e w' ⟨rfl, hw⟩; obtain rfl := hw.symm)
          | (go_at_call 33; refine HS.out.mono ?_; rintro e w1 ⟨rfl, v, hv, hd, hm⟩; have HD1 := hid hd; have HM1 := hid hm; clear hd hm))
        go_ret
        exact ⟨rfl, v, hv, HD1.out, HM1.out⟩

set_option maxHeartbeats 1000000 in
theorem read_nil (at' : Int) (w : World) : Calls Try.prog 13 #[.pointer none, .int .i64 at'] w fun e w' => e = .returned (.tuple #[.string ⟨#[]⟩, .int .i64 7]) ∧ w' = w := by
  go_enter Try.func13, Try.ntmps13
  go_wp2_with (first | (go_at_call 18; refine (off_nil _).mono ?_; rintro e w' ⟨rfl, rfl⟩))
  go_ret2
  exact ⟨rfl, rfl⟩
theorem write_nil (at' : Int) (s : ByteArray) (w : World) : Calls Try.prog 15 #[.pointer none, .int .i64 at', .string s] w fun e w' => e = .returned (.int .i64 7) ∧ w' = w := by
  go_enter Try.func15, Try.ntmps15
  go_wp2_with (first | (go_at_call 18; refine (off_nil _).mono ?_; rintro e w' ⟨rfl, rfl⟩))
  go_ret
  exact ⟨rfl, rfl⟩
theorem flush_nil (w : World) : Calls Try.prog 17 #[.pointer none] w fun e w' => e = .returned (.int .i64 7) ∧ w' = w := by
  go_enter Try.func17, Try.ntmps17
  go_wp2_with (first | (go_at_call 18; refine (off_nil _).mono ?_; rintro e w' ⟨rfl, rfl⟩))
  go_ret
  exact ⟨rfl, rfl⟩

theorem zero_string (w : World) : (zeroValue 9).run Try.prog w = .ok (.string ⟨#[]⟩) w := by kernel_rfl

set_option maxHeartbeats 1000000 in
theorem read_calls (q : Pl) (D : DevS) (at' : Int) (w : World) (h : DevAt w q D) :
    Calls Try.prog 13 #[.pointer (some ⟨q.p, 0, none⟩), .int .i64 at'] w fun e w' => e = .returned (.tuple #[.string (D.read at').1, .int .i64 (D.read at').2]) ∧ w' = w := by
  have HD := hid h
  have HO := hid (off_calls q D w h)
  have c1 := h.c1
  have c0 := h.c0
  obtain ⟨A, cap, e0, _⟩ := h.2.1.form
  cases ho : D.off with
  | true =>
    have hw : D.read at' = (⟨#[]⟩, 7) := by unfold DevS.read; rw [if_pos ho]
    rw [hw]
    rw [ho] at HO
    clear h ho hw
    go_enter Try.func13, Try.ntmps13
    go_wp2_with (first | (go_at_call 18; refine HO.out.mono ?_; rintro e w' ⟨rfl, hw⟩; obtain rfl := hw.symm))
    go_ret2
    exact ⟨rfl, rfl⟩
  | false =>
    rw [ho] at HO
    have hno : ¬ D.off = true := by rw [ho]; decide
    by_cases b1 : at' < 0
    · have hw : D.read at' = (⟨#[]⟩, 1) := by unfold DevS.read; rw [if_neg hno, if_pos (.inl b1)]
      rw [hw]
      have q1 : decide (at' < 0) = true := by simpa using b1
      clear h ho hw hno
      go_enter Try.func13, Try.ntmps13
      go_wp2_with (first | (go_at_call 18; refine HO.out.mono ?_; rintro e w' ⟨rfl, hw⟩; obtain rfl := hw.symm))
      go_ret2
      exact ⟨rfl, rfl⟩
    · have q1 : decide (at' < 0) = false := by simpa using b1
      by_cases b2 : (D.sure.length : Int) ≤ at'
      · have hw : D.read at' = (⟨#[]⟩, 1) := by unfold DevS.read; rw [if_neg hno, if_pos (.inr b2)]
        rw [hw]
        rw [e0] at c0
        have q2 : decide ((D.sure.length : Int) ≤ at') = true := by simpa using b2
        clear h ho hw hno
        go_enter Try.func13, Try.ntmps13
        go_wp2_with (first | (go_at_call 18; refine HO.out.mono ?_; rintro e w' ⟨rfl, hw⟩; obtain rfl := hw.symm))
        go_ret2
        exact ⟨rfl, rfl⟩
      · have q2 : decide ((D.sure.length : Int) ≤ at') = false := by simpa using b2
        have hin : ¬ (at' < 0 ∨ (D.sure.length : Int) ≤ at') := by omega
        cases hg : get at' D.cache with
        | some s =>
          have hw : D.read at' = (s, 0) := by unfold DevS.read; rw [if_neg hno, if_neg hin, hg]
          rw [hw]
          rw [e0] at c0
          have HG := hid hg
          clear h ho hw hno hin hg
          go_enter Try.func13, Try.ntmps13
          go_wp2_with (first
            | (go_at_call 18; refine HO.out.mono ?_; rintro e w' ⟨rfl, hw⟩; obtain rfl := hw.symm)
            | (at_lookup; refine wpList_look_yes rfl _ _ _ rfl Try.underlying56 Try.underlying3 HD.out.2.2.1 rfl at' rfl s HG.out ?_))
          go_ret2
          exact ⟨rfl, rfl⟩
        | none =>
          obtain ⟨j, rfl⟩ : ∃ j : Nat, at' = j := ⟨at'.toNat, by omega⟩
          have hjl : j < D.sure.length := by omega
          have hSj : D.sure[j]? = some D.sure[j] := List.getElem?_eq_getElem hjl
          obtain ⟨g2, cap2, e2, _, hc2⟩ := HD.out.2.1.cell (fun _ => rfl) hSj (i := 0) (u := .string D.sure[j]) rfl
          have hw : D.read j = (D.sure[j], 0) := by unfold DevS.read; rw [if_neg hno, if_neg hin, hg]; simp [List.getD, hSj]
          rw [hw]
          rw [e2] at c0
          rw [Nat.mul_one, Nat.add_zero] at hc2
          have HG := hid hg
          clear h ho hw hno hin hg
          generalize D.sure[j] = sj at *
          go_enter Try.func13, Try.ntmps13
          go_wp2_with (first
            | (go_at_call 18; refine HO.out.mono ?_; rintro e w' ⟨rfl, hw⟩; obtain rfl := hw.symm)
            | (at_lookup; refine wpList_look_no rfl _ _ _ rfl Try.underlying56 Try.underlying3 (zero_string _) HD.out.2.2.1 rfl j rfl HG.out ?_))
          go_ret2
          exact ⟨rfl, rfl⟩
end Go.Proofs.Ytpknhgimcabfcaa.Dv
