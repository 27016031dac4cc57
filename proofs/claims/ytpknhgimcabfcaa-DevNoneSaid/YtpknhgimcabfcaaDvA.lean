/-
  A SECTOR OF ONE LETTER.
  No condition.
-/
import Derived.Test.YtpknhgimcabfcaaOMapWalk
import Derived.Test.YtpknhgimcabfcaaOOwnW
import Derived.Test.YtpknhgimcabfcaaRows
namespace Go.Proofs.Ytpknhgimcabfcaa.Dv
open Go.RowKit Go.Proofs.Om

def sec (c : Int) : ByteArray := ⟨(List.replicate 128 (UInt8.ofNat c.toNat)).toArray⟩
def cellsU (c : Int) : List Value := [.int .u8 c]
theorem infoU : (Try.prog.info? 5).map (fun i => (i.zero, i.size, i.bytes)) = some (some (.int .u8 0), 1, 1) := by kernel_rfl

set_option maxRecDepth 100000 in
set_option maxHeartbeats 400000 in
theorem sector_calls (c : Int) (h0 : 0 ≤ c) (h1 : c < 256) (w : World) :
    Calls Try.prog 16 #[.int .u8 c] w fun e w' => e = .returned (.string (sec c)) ∧ Mod [] w w' := by
  obtain ⟨i0, hi, hz0, hz1, hz2⟩ := info_parts infoU
  go_enter Try.func16, Try.ntmps16
  go_wp2_with (first | (at_make; refine wpList_make_full _ rfl _ _ 60 rfl w.heap.size 5 i0 (.int .u8 0) 1 Try.underlying60 hi hz0 hz1 .i64 .i64 _ _ 128 rfl rfl rfl rfl (by omega) (by unfold maxLen; omega) (Nat.le_refl _) ?_; intro w1 ho hg; have HO := hid (OwnL.made (f := cellsU) (Value.int .u8) (fun _ => rfl) 0 rfl ho); have HM := hid ((Mod.refl [] w).grown hg (fun g e => by cases e)); clear ho hg))
  clear hi hz0 hz1 hz2
  go_loopw [4] (fun vi wr => ∃ (k : Nat), k ≤ 128 ∧ vi = .int .i64 k ∧ Hid (OwnL wr w.heap.size 5 1 cellsU (.slice (some ⟨w.heap.size, 0, none⟩) 128 128) (List.replicate k c ++ List.replicate (128 - k) 0) ∧ Mod [] w wr)) (fun vi _ => 128 - (intOf vi).toNat)
  case atStart => exact ⟨0, by omega, rfl, hid ⟨by simpa using HO.out, HM.out⟩⟩
  case round =>
    obtain ⟨k, hk, rfl, HI⟩ := hrel
    by_cases hlt : k < 128
    · have hx : (List.replicate k c ++ List.replicate (128 - k) 0)[k]? = some 0 := by
        rw [List.getElem?_append_right (by simp), List.getElem?_replicate, if_pos (by simp; omega)]
      have hc := HI.out.1.cellAt (fun _ => rfl) hx (i := 0) (u := .int .u8 0) rfl
      rw [Nat.mul_one, Nat.add_zero] at hc
      have hf := HI.out.1.free k
      have hs := HI.out.1.set (Value.int .u8) (fun _ => rfl) k c (.int .u8 c) rfl
      have hl : (List.replicate k c ++ List.replicate (128 - k) 0).set k c = List.replicate (k + 1) c ++ List.replicate (128 - (k + 1)) 0 := by
        rw [List.set_append_right _ _ (by simp)]
        rw [show 128 - k = (128 - (k + 1)) + 1 by omega, List.replicate_succ (n := 128 - (k + 1))]
        simp [List.replicate_succ', List.append_assoc]
      rw [hl] at hs
      have HS := hid hs
      have HM2 := hid (HI.out.2.setCell (p := ⟨w.heap.size, k, none⟩) (fun h => absurd h (Nat.lt_irrefl _)) (.int .u8 c))
      clear hs hl hx
      go_wp2
      go_roundw
      case rel => exact ⟨k + 1, by omega, by go_num, hid ⟨HS.out, HM2.out⟩⟩
      case measure => simp [intOf]; omega
    · have hk8 : k = 128 := by omega
      subst hk8
      have hcv : (convert 60 9 (.slice (some ⟨w.heap.size, 0, none⟩) 128 128)).run Try.prog wr = .ok (.string (sec c)) wr := by
        refine run_convert_bytes_back wr 60 9 5 ⟨w.heap.size, 0, none⟩ 128 (List.replicate 128 (UInt8.ofNat c.toNat)) Try.underlying60 Try.underlying5 Try.underlying9 (fun j hj => ?_)
        have hj' : j < 128 := by simpa using hj
        have hx : (List.replicate 128 c ++ List.replicate (128 - 128) 0)[j]? = some c := by
          rw [List.getElem?_append_left (by simpa using hj'), List.getElem?_replicate, if_pos hj']
        have hc := HI.out.1.cellAt (fun _ => rfl) hx (i := 0) (u := .int .u8 c) rfl
        have e2 : ((List.replicate 128 (UInt8.ofNat c.toNat))[j].toNat : Int) = c := by
          rw [List.getElem_replicate, UInt8.toNat_ofNat']
          omega
        rw [e2, Addr.add_lit]
        simpa using hc
      have HC := hid hcv
      clear hcv
      have hcv := HC.out
      go_wp2
      go_ret
      exact ⟨rfl, HI.out.2⟩
end Go.Proofs.Ytpknhgimcabfcaa.Dv
