/-
  TxNone: A NIL TRANSACTION, AND ONE OVER NOTHING.
  No condition.
-/
import Derived.Test.YtkohpfigapfcdaaTxD
namespace Go.Proofs.Ytkohpfigapfcdaa.Tx
open Go.RowKit Go.Proofs.Om

set_option maxRecDepth 100000 in
set_option maxHeartbeats 1000000 in
theorem none_calls (id : Int) (s : ByteArray) (w : World) :
    Calls Try.prog 4 #[.int .u64 id, .string s] w fun e w' => e = .returned (.bool true) ∧ Mod [] w w' := by
  have G0 : getR id [] [] = (⟨#[]⟩, false) := by rfl
  have B0 : ∀ w, BaseAt w .nilFunc [] := fun _ => .inl ⟨rfl, rfl⟩
  obtain ⟨own, HO, HG1, HG2, HG3⟩ : ∃ own : List (Int × Ch), Hid (put id ⟨id, s, false⟩ [] = own) ∧ Hid (getR id own [] = (s, true)) ∧ Hid ((changesR own []).length = 1) ∧ Hid (own.length = 1) :=
    ⟨_, hid rfl, hid (by simp [getR, put, Om.get]), hid (by simp [changesR, put, chg, find]), hid (by simp [put])⟩
  obtain ⟨own2, HO2, HG4, HG5⟩ : ∃ own2 : List (Int × Ch), Hid (dropR id own [] = own2) ∧ Hid ((changesR own2 []).length = 0) ∧ Hid (own2.length = 1) := by
    refine ⟨_, hid rfl, ?_, ?_⟩
    · unfold dropR
      rw [HG1.out, ← HO.out]
      simp [changesR, put, chg, find, Hid]
    · unfold dropR
      rw [HG1.out, ← HO.out]
      simp [put, Hid]
  have HB0 := hid B0
  have HG0 := hid G0
  clear G0 B0
  have q1 : (s.toList == s.toList) = true := str_yes rfl
  have q2 : ∀ w : World, (binOp BinOp.eql 25 (.pointer none) (.pointer none)).run Try.prog w = .ok (.bool true) w := fun _ => by kernel_rfl
  have tok0 := hid trivial
  go_enter Try.func4, Try.ntmps4
  go_wp2_with (first
    | (go_at_call 13; clear tok0; refine (put_nil _ _ _).mono ?_; rintro e w1 ⟨rfl, rfl⟩; have tok1 := hid trivial)
    | (go_at_call 14; clear tok1; refine (get_nil _ _).mono ?_; rintro e w1 ⟨rfl, rfl⟩; have tok2 := hid trivial)
    | (go_at_call 6; clear tok2; refine (new_calls _ _ (.inl rfl)).mono ?_; rintro e w2 ⟨p, b, rfl, ht, hp, hbb, hm⟩; have HT := hid ht; have HM := hid hm; have HN := hid hbb; clear ht hm hp hbb; have tok3 := hid trivial)
    | (go_at_call 14; clear tok3; have hg := get_calls p b _ _ [] id _ HT.out (HB0.out _); rw [HG0.out] at hg; refine hg.mono ?_; clear hg; rintro e w4 ⟨rfl, hm⟩; have HT4 := hid (HT.out.mod hm (by simp) (by simp)); have HM4 := hid (HM.out.trans hm); clear hm; have tok4 := hid trivial)
    | (go_at_call 13; clear tok4; have hg := put_calls p b _ _ id s _ HT4.out; rw [HO.out] at hg; refine hg.mono ?_; clear hg; rintro e w5 ⟨rfl, ht, hm⟩; have HT5 := hid ht; have HM5 := hid (HM4.out.then hm.mod (by intro j hj hl; simp at hj; have := HN.out; omega)); clear ht hm; have tok5 := hid trivial)
    | (go_at_call 14; clear tok5; have hg := get_calls p b _ _ [] id _ HT5.out (HB0.out _); rw [HG1.out] at hg; refine hg.mono ?_; clear hg; rintro e w6 ⟨rfl, hm⟩; have HT6 := hid (HT5.out.mod hm (by simp) (by simp)); have HM6 := hid (HM5.out.trans hm); clear hm; have tok6 := hid trivial)
    | (go_at_call 11; clear tok6; refine (awake_calls _).mono ?_; rintro e w7 ⟨rfl, hm⟩; have HT7 := hid (HT6.out.mod hm (by simp) (by simp)); have HM7 := hid (HM6.out.trans hm); clear hm; have tok7 := hid trivial)
    | (go_at_call 15; clear tok7; refine (drop_nil _ _).mono ?_; rintro e w8 ⟨rfl, rfl⟩; have tok8 := hid trivial)
    | (go_at_call 10; clear tok8; refine (changes_nil _).mono ?_; rintro e w8 ⟨rfl, rfl⟩; have tok9 := hid trivial)
    | (go_at_call 16; clear tok9; refine (copy_nil _).mono ?_; rintro e w8 ⟨rfl, rfl⟩; have tok10 := hid trivial)
    | (go_at_call 10; clear tok10; refine (changes_calls p b _ _ [] _ HT7.out (HB0.out _) (by rw [HG3.out]; decide)).mono ?_; rintro e w8 ⟨v8, rfl, ho8, hm⟩; obtain ⟨A8, c8, rfl, _⟩ := ho8.form; rw [HG2.out]; have HT8 := hid (HT7.out.mod hm (by simp) (by simp)); have HM8 := hid (HM7.out.trans hm); clear hm ho8; have tok11 := hid trivial)
    | (go_at_call 15; clear tok11; have hg := drop_calls p b _ _ [] id _ HT8.out (HB0.out _); rw [HG1.out, HO2.out] at hg; refine hg.mono ?_; clear hg; rintro e w9 ⟨rfl, ht, hm⟩; have HT9 := hid ht; have HM9 := hid (HM8.out.then hm (by intro j hj hl; simp at hj; have := HN.out; omega)); clear ht hm; have tok12 := hid trivial)
    | (go_at_call 10; clear tok12; refine (changes_calls p b _ _ [] _ HT9.out (HB0.out _) (by rw [HG5.out]; decide)).mono ?_; rintro e w10 ⟨v10, rfl, ho10, hm⟩; obtain ⟨A10, c10, rfl, _⟩ := ho10.form; rw [HG4.out]; have HM10 := hid (HM9.out.trans hm); clear hm ho10; have tok13 := hid trivial)
    )
  go_ret
  exact ⟨rfl, HM10.out⟩
end Go.Proofs.Ytkohpfigapfcdaa.Tx
