/-
  DevNone: A NIL DEVICE, ONE OF TOO MANY SECTORS; A COPY GOES ITS OWN WAY.
  No condition.
-/
import Derived.Test.YtpknhgimcabfcaaDvK
namespace Go.Proofs.Ytpknhgimcabfcaa.Dv
open Go.RowKit Go.Proofs.Om Go.Proofs.Ytpknhgimcabfcaa.Srt Go.Proofs.Ytpknhgimcabfcaa.Keys

theorem and_small (n : Int) (m : Nat) (hm : m ≤ 7) : ∃ x : Nat, bits BinOp.and IntKind.i64 n (m : Int) = (x : Int) ∧ x ≤ m := by
  have e : bits BinOp.and IntKind.i64 n (m : Int) = IntKind.i64.wrap ((BitVec.ofInt 64 n &&& BitVec.ofInt 64 (m : Int)).toNat : Int) := rfl
  have h2 : (BitVec.ofInt 64 (m : Int)).toNat = m := by rw [BitVec.ofInt_natCast, BitVec.toNat_ofNat]; omega
  have h3 : (BitVec.ofInt 64 n &&& BitVec.ofInt 64 (m : Int)).toNat ≤ m := by
    rw [BitVec.toNat_and, h2]
    exact Nat.and_le_right
  refine ⟨(BitVec.ofInt 64 n &&& BitVec.ofInt 64 (m : Int)).toNat, ?_, h3⟩
  rw [e]
  generalize (BitVec.ofInt 64 n &&& BitVec.ofInt 64 (m : Int)).toNat = x at *
  simp [IntKind.wrap, IntKind.signed, IntKind.bits]
  omega

theorem no1 : (newD 1).write 0 (sec 122) = (⟨[sec 0], [(0, sec 122)], 1, [], false⟩, 0) := by
  simp [DevS.write, DevS.step, newD, sec_size, put, List.replicate]
theorem no2 : (newD 1).read 0 = (sec 0, 0) := by
  simp [DevS.read, newD, Om.get, List.replicate]

end Go.Proofs.Ytpknhgimcabfcaa.Dv
