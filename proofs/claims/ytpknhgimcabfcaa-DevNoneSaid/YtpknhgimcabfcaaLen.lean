/-
  math/bits.Len hands back some number that is not below nought, and changes nothing.
  No condition.
-/
import Derived.Test.YtpknhgimcabfcaaOMapWalk
import Derived.Test.YtpknhgimcabfcaaRows
import Derived.Lib.Tables
import Derived.Deep.Light
namespace Go.Proofs.Ytpknhgimcabfcaa.Srt
open Go.RowKit Go.Proofs.Om

def SomeN (w : World) (e : Ending) (w' : World) : Prop := ∃ L : Int, 0 ≤ L ∧ L ≤ 1000 ∧ e = .returned (.int .i64 L) ∧ w' = w

theorem someN1 (w : World) (c : Int) (b : UInt8) (h0 : 0 ≤ c) (h1 : c ≤ 100) : SomeN w (.returned (.int .i64 (wrap64 (c + wrap64 (b.toNat : Int))))) w := by
  have hb : b.toNat < 256 := b.toNat_lt
  have e : wrap64 (c + wrap64 (b.toNat : Int)) = c + (b.toNat : Int) := by unfold wrap64; omega
  exact ⟨_, by rw [e]; omega, by rw [e]; omega, rfl, rfl⟩
theorem someN2 (w : World) (b : UInt8) : SomeN w (.returned (.int .i64 (wrap64 (wrap64 (b.toNat : Int))))) w := by
  have hb : b.toNat < 256 := b.toNat_lt
  have e : wrap64 (wrap64 (b.toNat : Int)) = (b.toNat : Int) := by unfold wrap64; omega
  exact ⟨_, by rw [e]; omega, by rw [e]; omega, rfl, rfl⟩
theorem size_tab : (Lib.len8tab.size : Int) = 256 := by
  have : Lib.len8tab.size = 256 := Lib.len8tab_size
  omega

set_option maxRecDepth 1000000 in
set_option maxHeartbeats 1000000 in
theorem len64_calls (x : Int) (w : World) (h0 : 0 ≤ x) (h1 : x < 281474976710656) :
    Calls Try.prog 69 #[.int .u64 x] w (SomeN w) := by
  go_enter Try.func69, Try.ntmps69
  go_wp2
  all_goals first
    | (go_ret; first | exact someN1 _ _ _ (by decide) (by decide) | exact someN2 _ _)
    | (exfalso
       go_light
       have hs := size_tab
       omega)

theorem len_calls (x : Int) (w : World) (h0 : 0 ≤ x) (h1 : x < 281474976710656) :
    Calls Try.prog 56 #[.int .u64 x] w (SomeN w) := by
  go_enter Try.func56, Try.ntmps56
  go_wp2_with (first | (go_at_call 69; refine (len64_calls x _ h0 h1).mono ?_; rintro e w' ⟨L, hL0, hL1, rfl, rfl⟩))
  go_ret
  exact ⟨L, hL0, hL1, rfl, rfl⟩
end Go.Proofs.Ytpknhgimcabfcaa.Srt
