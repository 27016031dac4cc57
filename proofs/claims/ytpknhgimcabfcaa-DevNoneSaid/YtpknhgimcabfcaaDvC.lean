/-
  A NEW DEVICE.
  No condition.
-/
import Derived.Test.YtpknhgimcabfcaaDvB
import Derived.Deep.RegionWith
import Derived.BigQuiet
import Derived.Deep.QuietTactic
namespace Go.Proofs.Ytpknhgimcabfcaa.Dv
open Go.RowKit Go.Proofs.Om

theorem infoS : (Try.prog.info? 9).map (fun i => (i.zero, i.size, i.bytes)) = some (some (.string ⟨#[]⟩), 1, 16) := by kernel_rfl
theorem rep0 : (⟨(Lib.repeatL (⟨#[0]⟩ : ByteArray).data.toList 128).toArray⟩ : ByteArray) = sec 0 := by decide +kernel

theorem newbad_calls (n : Int) (h : n < 0 ∨ 65536 < n) (w : World) : Calls Try.prog 6 #[.int .i64 n] w fun e w' => e = .returned (.tuple #[.pointer none, .int .i64 1]) ∧ w' = w := by
  by_cases h0 : n < 0
  · have q1 : decide (n < 0) = true := by simpa using h0
    go_enter Try.func6, Try.ntmps6
    go_wp2
    go_ret2
    exact ⟨rfl, rfl⟩
  · have q1 : decide (n < 0) = false := by simpa using h0
    have q2 : decide (n > 65536) = true := by simp; omega
    have q3 : decide (65536 < n) = true := by simp; omega
    go_enter Try.func6, Try.ntmps6
    go_wp2
    go_ret2
    exact ⟨rfl, rfl⟩

def lD (n k : Nat) : DevS := ⟨List.replicate k (sec 0) ++ List.replicate (n - k) ⟨#[]⟩, [], 0, [], false⟩
def newD (n : Nat) : DevS := ⟨List.replicate n (sec 0), [], 0, [], false⟩

set_option maxHeartbeats 1000000 in
theorem new_calls (n : Nat) (hn : n ≤ 65536) (w : World) : Calls Try.prog 6 #[.int .i64 n] w fun e w' => ∃ q, e = .returned (.tuple #[.pointer (some ⟨q.p, 0, none⟩), .int .i64 0]) ∧ DevAt w' q (newD n) ∧ (∀ j ∈ q.foot, w.heap.size ≤ j) ∧ Mod [] w w' := by
  have hmm := @run_makeMap Try.prog
  obtain ⟨i0, hi, hz0, hz1, hz2⟩ := info_parts infoS
  have q1 : decide ((n : Int) < 0) = false := by simp
  have q2 : decide ((n : Int) > 65536) = false := by simp; omega
  have q3 : decide (65536 < (n : Int)) = false := by simp; omega
  go_enter Try.func6, Try.ntmps6
  go_wp2_with (first | (at_make; refine wpList_make_full _ rfl _ _ 27 rfl w.heap.size 9 i0 (.string ⟨#[]⟩) 1 Try.underlying27 hi hz0 hz1 .i64 .i64 _ _ n rfl rfl rfl rfl (by rw [hz2]; omega) (by unfold maxLen; omega) (Nat.le_refl _) ?_; intro w1 ho hg; have HO := hid (OwnL.made (f := cellsS) Value.string (fun _ => rfl) ⟨#[]⟩ rfl ho); have HM := hid ((Mod.refl [] w).grown hg (fun g e => by cases e)); clear ho hg))
  clear hi hz0 hz1 hz2 q1 q2 q3 hmm
  have hsz := HM.out.size
  have h0 : DevAt ((w1.alloc (.map #[] 0)).alloc (.cells #[.slice (some ⟨w.heap.size, 0, none⟩) n n, .map (some w1.heap.size), .int .i64 0, .slice none 0 0, .bool false] 58)) ⟨w1.heap.size + 1, w1.heap.size, .slice (some ⟨w.heap.size, 0, none⟩) n n, .slice none 0 0⟩ (lD n 0) := by
    have hk : Mod [] w1 ((w1.alloc (.map #[] 0)).alloc (.cells #[.slice (some ⟨w.heap.size, 0, none⟩) n n, .map (some w1.heap.size), .int .i64 0, .slice none 0 0, .bool false] 58)) := ((Mod.refl _ _).alloc _).alloc _
    refine ⟨?_, ?_, ?_, OwnL.nil _ _ _ _ _⟩
    · have := (MapKept.heap_alloc (w1.alloc (.map #[] 0)) (.cells #[.slice (some ⟨w.heap.size, 0, none⟩) n n, .map (some w1.heap.size), .int .i64 0, .slice none 0 0, .bool false] 58)).1
      simpa [lD] using this
    · have := (HO.out.mod0 hk).lower (Nat.zero_le _)
      simpa [lD] using this
    · exact (MapAt.made w1).keep ((MapKept.heap_alloc _ _).2 _ (by simp))
  have hm0 : Mod [] w ((w1.alloc (.map #[] 0)).alloc (.cells #[.slice (some ⟨w.heap.size, 0, none⟩) n n, .map (some w1.heap.size), .int .i64 0, .slice none 0 0, .bool false] 58)) := (HM.out.alloc _).alloc _
  have H0 := hid h0
  have HM0 := hid hm0
  clear h0 hm0
  have hgp : w.heap.size ≠ w1.heap.size + 1 := by omega
  go_loopw [22] (fun vi wr => ∃ (k : Nat), k ≤ n ∧ vi = .int .i64 k ∧ Hid (DevAt wr ⟨w1.heap.size + 1, w1.heap.size, .slice (some ⟨w.heap.size, 0, none⟩) n n, .slice none 0 0⟩ (lD n k)) ∧ Hid (Mod [] w wr)) (fun vi _ => n - (intOf vi).toNat)
  case atStart => exact ⟨0, by omega, rfl, H0, HM0⟩
  case round =>
    obtain ⟨k, hk, rfl, HD, HMr⟩ := hrel
    by_cases hlt : k < n
    · have c0 := HD.out.c0
      dsimp only at c0
      have hx : (lD n k).sure[k]? = some ⟨#[]⟩ := by
        unfold lD
        rw [List.getElem?_append_right (by simp), List.getElem?_replicate, if_pos (by simp; omega)]
      have c1 := HD.out.2.1.cellAt (fun _ => rfl) hx (i := 0) (u := .string ⟨#[]⟩) rfl
      rw [Nat.mul_one, Nat.add_zero] at c1
      have f1 := HD.out.2.1.free k
      have hpl := HD.out.lt
      have hgl := (HD.out.2.1.block (g := w.heap.size) rfl).2.1
      dsimp only at hpl
      have hl : (lD n k).sure.set k (sec 0) = (lD n (k + 1)).sure := by
        unfold lD
        dsimp only
        rw [List.set_append_right _ _ (by simp)]
        rw [show n - k = (n - (k + 1)) + 1 by omega, List.replicate_succ (n := n - (k + 1))]
        simp [List.replicate_succ', List.append_assoc]
      have HL := hid hl
      clear hl hx
      go_wp2_with fail
      go_region_with (go_at_call 23; refine (Try.strings_Repeat ⟨#[0]⟩ 128 _ (by omega) (by decide)).mono ?_; rw [rep0]; rintro e w2 ⟨rfl, hb⟩; have d0 := (hb.cell (p := ⟨w1.heap.size + 1, 0, none⟩) hpl).trans c0; have d1 := (hb.cell (p := ⟨w.heap.size, k, none⟩) hgl).trans c1; have g1 := (hb.frozen (p := ⟨w.heap.size, k, none⟩) hgl).trans f1; have HB := hid hb; clear hb)
      all_goals (go_wp2; go_roundw)
      all_goals first
        | exact ⟨k + 1, by omega, by go_num, hid (by
            have hd := ((HD.out.mod0 ((Mod.refl [] wr).drew)).mod0 (Mod.of_below HB.out)).setSure rfl k (sec 0) _ rfl
            have e : ({ lD n k with sure := (lD n k).sure.set k (sec 0) } : DevS) = lD n (k + 1) := by rw [HL.out]; rfl
            rwa [e] at hd), hid (((HMr.out.trans ((Mod.refl [] wr).drew)).trans (Mod.of_below HB.out)).setCell (fun h => absurd h (Nat.lt_irrefl _)) _)⟩
        | (simp [intOf]; omega)
    · have hkn : k = n := by omega
      subst hkn
      have e : lD k k = newD k := by simp [lD, newD]
      rw [e] at HD
      go_wp2
      go_ret2
      refine ⟨_, rfl, HD.out, ?_, HMr.out⟩
      intro j hj
      rcases mem_foot.1 hj with e | e | e | e
      · dsimp only at e; omega
      · dsimp only at e; omega
      · simp [Value.ownBlock] at e; omega
      · simp [Value.ownBlock] at e
end Go.Proofs.Ytpknhgimcabfcaa.Dv
