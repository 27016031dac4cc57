/-
  DevNone, ONE PART OF ITS INPUTS: the many sectors are too many.
  No condition.
-/
import Derived.Test.YtpknhgimcabfcaaDvN
namespace Go.Proofs.Ytpknhgimcabfcaa.Dv
open Go.RowKit Go.Proofs.Om Go.Proofs.Ytpknhgimcabfcaa.Srt Go.Proofs.Ytpknhgimcabfcaa.Keys

set_option maxRecDepth 100000 in
set_option maxHeartbeats 4000000 in
theorem none_many (n kind at' c fat keep torn : Int) (odd : Bool) (w : World) (x : Nat) (hx : bits BinOp.and IntKind.i64 n 3 = (x : Int)) (hx1 : 1 < x ∧ x ≤ 3) :
    Calls Try.prog 5 #[.int .i64 n, .agg #[.int .i64 kind, .int .i64 at', .int .u8 c, .bool odd, .int .i64 fat, .int .u64 keep, .int .i64 torn]] w fun e w' => e = .returned (.bool true) ∧ Mod [] w w' := by
  obtain ⟨y, hy, hy7⟩ := and_small n 7 (by omega)
  replace hy : bits BinOp.and IntKind.i64 n 7 = (y : Int) := hy
  have s2 : ((sec 0).toList == (sec 0).toList) = true := str_yes rfl
  have hq : ∀ w : World, (binOp BinOp.eql 23 (.pointer none) (.pointer none)).run Try.prog w = .ok (.bool true) w := fun _ => by kernel_rfl
  have hn0 : ∀ w : World, (binOp BinOp.neq 23 (.pointer none) (.pointer none)).run Try.prog w = .ok (.bool false) w := fun _ => by kernel_rfl
  have HSec := hid (fun c h0 h1 w => sector_calls c h0 h1 w)
  have tok0 := hid trivial
  have q1 : decide (65535 + (x : Int) ≤ 65536) = false := by simp; omega
  go_enter Try.func5, Try.ntmps5
  go_wp2_with (first
    | (go_at_call 11; clear tok0; refine (crash_nil _ _ _).mono ?_; rintro e w1 ⟨rfl, rfl⟩; have tok1 := hid trivial)
    | (go_at_call 12; clear tok1; refine (plan_nil _ _ _ _).mono ?_; rintro e w1 ⟨rfl, rfl⟩; have tok2 := hid trivial)
    | (go_at_call 13; clear tok2; refine (read_nil _ _).mono ?_; rintro e w1 ⟨rfl, rfl⟩; have tok3 := hid trivial)
    | (go_at_call 6; clear tok3; have hc := newbad_calls (65535 + (x : Int)) (.inr (by omega)) ((w.alloc (.cells #[.int .i64 kind, .int .i64 at', .int .u8 c, .bool odd, .int .i64 fat, .int .u64 keep, .int .i64 torn] 42)).alloc (.cells #[.int .i64 fat, .int .u64 keep, .int .i64 torn] 40)); refine hc.mono ?_; clear hc; rintro e w1 ⟨rfl, hw⟩; have HA := hid (show w1.cell? ⟨w.heap.size, 1, none⟩ = some (.int .i64 at') from (by rw [hw]; exact ((World.cell?_alloc_lt _ _ ⟨w.heap.size, 1, none⟩ (by simp)).trans (World.cell?_alloc_new w _ _ 1)))); have HM1 := hid (show Mod [] w w1 from (by rw [hw]; exact ((Mod.refl [] w).alloc _).alloc _)); clear hw; have tok4 := hid trivial)
    | (go_at_call 6; clear tok4; refine (newbad_calls (-1 - (y : Int)) (.inl (by omega)) _).mono ?_; rintro e w2 ⟨rfl, hw⟩; obtain rfl := hw.symm; have tok5 := hid trivial)
    | (go_at_call 6; clear tok5; refine (new_calls 1 (by omega) _).mono ?_; rintro e w5 ⟨q5, rfl, hd, hq5, hm⟩; have HD5 := hid hd; have HA5 := hid (hm.cell0 HA.out); have HM5 := hid (HM1.out.trans hm); clear hd hq5 hm; have tok6 := hid trivial)
    | (go_at_call 14; clear tok6; refine (copy_calls q5 _ _ HD5.out (by simp [newD]) (by simp [newD])).mono ?_; rintro e w6 ⟨q6, rfl, hd, hq6, hm⟩; have HD6 := hid hd; have HQ6 := hid hq6; have HY6 := hid (HD5.out.mod0 hm); have HF6 := hid (fun j (hj : j ∈ q5.foot) => HD5.out.foot_lt j hj); have HA6 := hid (hm.cell0 HA5.out); have HM6 := hid (HM5.out.trans hm); have HS6 := hid (hm.size); clear hd hq6 hm; have tok7 := hid trivial)
    | (go_at_call 16; clear tok7; refine (HSec.out 122 (by omega) (by omega) _).mono ?_; rintro e w7 ⟨rfl, hm⟩; have HD7 := hid (HD6.out.mod0 hm); have HY7 := hid (HY6.out.mod0 hm); have HA7 := hid (hm.cell0 HA6.out); have HM7 := hid (HM6.out.trans hm); clear hm; have tok8 := hid trivial)
    | (go_at_call 15; clear tok8; have hc := write_calls q6 _ 0 (sec 122) _ HD7.out (ok_new 1 (by omega)) (by simp [newD]) (by simp [newD]); rw [no1] at hc; refine hc.mono ?_; clear hc; rintro e w8 ⟨rfl, v8, hv, hd, hm⟩; have HY8 := hid (HY7.out.mod hm (fun j hj hj2 => by have h1 := HQ6.out j hj2; have h2 := HF6.out j hj; omega)); have HA8 := hid ((hm.cell (p := ⟨w.heap.size, 1, none⟩) (World.block_lt_of_cell? _ _ HA7.out) (fun hj2 => by have h1 := HQ6.out _ hj2; have h2 := World.block_lt_of_cell? _ _ HA5.out; dsimp only at h1 h2; omega)).trans HA7.out); have HM8 := hid (mod_dev HM7.out hm (fun j hj => by have := HQ6.out j hj; have := HM5.out.size; omega)); clear hv hd hm; have tok9 := hid trivial)
    | (go_at_call 13; clear tok9; have hc := read_calls q5 _ 0 _ HY8.out; rw [no2] at hc; refine hc.mono ?_; clear hc; rintro e w9 ⟨rfl, hw⟩; obtain rfl := hw.symm; have tok10 := hid trivial))
  have kA := HA8.out
  simp only [List.append_eq, List.cons_append, List.nil_append]
  go_region_held3 (fun wx => wx.cell? ⟨w.heap.size, 1, none⟩ = some (.int .i64 at')) (first | assumption | go_keep) ((first
    | (go_at_call 8; clear tok10; go_must (refine (awake_calls _).mono ?_; rintro e w10 ⟨rfl, hm⟩; have k10 := hm.cell0 (show w8.drew.cell? ⟨w.heap.size, 1, none⟩ = some (.int .i64 at') from kA); have HM10 := hid (HM8.out.drew.trans hm); clear hm); have tok11 := hid trivial)
    | (go_at_call 16; clear tok11; refine (HSec.out 97 (by omega) (by omega) _).mono ?_; rintro e w11 ⟨rfl, hm⟩; have k11 := hm.cell0 k10; have HM11 := hid (HM10.out.trans hm); clear hm; have tok12 := hid trivial)
    | (go_at_call 15; clear tok12; refine (write_nil _ _ _).mono ?_; rintro e w12 ⟨rfl, hw⟩; obtain rfl := hw.symm; have tok13 := hid trivial)
    | (go_at_call 17; clear tok13; refine (flush_nil _).mono ?_; rintro e w12 ⟨rfl, hw⟩; obtain rfl := hw.symm; have tok14 := hid trivial)
    | (go_at_call 18; clear tok14; refine (off_nil _).mono ?_; rintro e w12 ⟨rfl, hw⟩; obtain rfl := hw.symm; have tok15 := hid trivial)
    | (go_at_call 19; clear tok15; refine (up_nil _).mono ?_; rintro e w12 ⟨rfl, hw⟩; obtain rfl := hw.symm; have tok16 := hid trivial)
    | (go_at_call 20; clear tok16; refine (len_nil _).mono ?_; rintro e w12 ⟨rfl, hw⟩; obtain rfl := hw.symm; have tok17 := hid trivial)
    | (go_at_call 21; clear tok17; refine (steps_nil _).mono ?_; rintro e w12 ⟨rfl, hw⟩; obtain rfl := hw.symm; have tok18 := hid trivial)
    | (go_at_call 22; clear tok18; refine (loose_nil _).mono ?_; rintro e w12 ⟨rfl, hw⟩; obtain rfl := hw.symm; have tok19 := hid trivial)
    | (go_at_call 14; clear tok19; refine (copy_nil _).mono ?_; rintro e w12 ⟨rfl, hw⟩; obtain rfl := hw.symm; have tok20 := hid trivial)
    | (go_at_call 16; clear tok20; refine (HSec.out 0 (by omega) (by omega) _).mono ?_; rintro e w13 ⟨rfl, hm⟩; have k13 := hm.cell0 k11; have HM13 := hid (HM11.out.trans hm); clear hm; have tok21 := hid trivial)))
  all_goals go_wp2
  all_goals go_ret
  all_goals exact ⟨rfl, HM13.out⟩
end Go.Proofs.Ytpknhgimcabfcaa.Dv
