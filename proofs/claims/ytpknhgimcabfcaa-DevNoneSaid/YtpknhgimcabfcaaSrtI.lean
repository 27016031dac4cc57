/-
  slices.Sorted(maps.Keys(m)), whatever the number of keys.
  No condition but that they fit in memory.
-/
import Derived.Test.YtpknhgimcabfcaaSrtBI
import Derived.Test.YtpknhgimcabfcaaLayS
import Derived.Sort.OwnSortedInts
namespace Go.Proofs.Ytpknhgimcabfcaa.Srt
open Go.RowKit Go.Proofs.Om Go.Proofs.Ytpknhgimcabfcaa.Keys

theorem collect_row {V : Type} {enc : V → Value} (Bm b : Nat) (m : List (Int × V)) (hN : m.length ≤ 1099511627776) (w : World)
    (hBm : Bm < w.heap.size) (hm : w.cell? ⟨Bm, 0, none⟩ = some (.map (some b))) (hM : MapAt w b .i64 enc m) :
    Calls Try.prog 42 #[.func (.func 44) #[] #[.pointer (some ⟨Bm, 0, none⟩)]] w fun e W' =>
      ∃ (v : Value) (xs : List Int), e = .returned v ∧ xs.Perm (m.map (·.1)) ∧ W'.ownsRow w.heap.size 3 1 v xs.length (xs.map (Value.int .i64)) ∧ (v = .slice none 0 0 ↔ xs = []) ∧ Mod [] w W' := by
  have HA := hid ((callsIn_wide (n := 3)).1 (appendSeq_in 3 (by omega) Bm b m hN w hBm hm hM))
  clear hM hm
  go_enter Try.func42, Try.ntmps42
  go_wp2_with (first | (go_at_call 54; refine HA.out.mono ?_; rintro e w' ⟨v, xs, rfl, hp, hrow, hnil, hb⟩))
  go_ret
  exact ⟨v, xs, rfl, hp, hrow, hnil, Mod.of_below hb⟩

theorem sorted_calls {V : Type} {enc : V → Value} (Bm b : Nat) (m : List (Int × V)) (hN : m.length ≤ 1099511627776) (w : World)
    (hBm : Bm < w.heap.size) (hm : w.cell? ⟨Bm, 0, none⟩ = some (.map (some b))) (hM : MapAt w b .i64 enc m) :
    Calls Try.prog 28 #[.func (.func 44) #[] #[.pointer (some ⟨Bm, 0, none⟩)]] w fun e W' =>
      ∃ (v : Value), e = .returned v ∧ IntsV W' w.heap.size v 3 .i64 (m.map (·.1)) ∧ Mod [] w W' := by
  have HA := hid (collect_row Bm b m hN w hBm hm hM)
  have HS := hid (asc_le hM.asc)
  clear hM hm
  go_enter Try.func28, Try.ntmps28
  go_wp2_with (first | (go_at_call 42; refine HA.out.mono ?_; rintro e w1 ⟨v, xs, rfl, hp, hv, hnil, hmod⟩))
  have HP := hid hp
  have HMd := hid hmod
  have HNil := hid hnil
  clear hp hmod hnil
  have hlen : xs.length = (m.map (·.1)).length := HP.out.length_eq
  have hv0 := hv
  rcases hv.2 with ⟨rfl, h0⟩ | ⟨g, cap, cur, rfl, hg, hb, h1, h2, h3, h4⟩
  · have hx : xs = [] := List.eq_nil_of_length_eq_zero h0
    clear hv hv0
    go_wp2_with (first | (go_at_call 43; refine (sort_none _).mono ?_; rintro e w' ⟨rfl, rfl⟩))
    go_ret
    have : m.map (·.1) = [] := by rw [hx] at HP; exact HP.out.symm.eq_nil
    exact ⟨_, rfl, .inl ⟨rfl, this⟩, HMd.out⟩
  · have hgl := (Array.getElem?_eq_some_iff.1 hb).1
    have hnil : xs ≠ [] := fun e => by cases HNil.out.2 e
    have hxl : xs.length < 4611686018427387904 := by simp at hlen; omega
    rw [Nat.mul_one] at h4
    have HC := hid (Try.slices_Sort_int g 0 cap xs w1 (holds_of_blockI hb h4) hgl hxl)
    have HB := hid hb
    have H3 := hid (show cur.size = cap * 1 by omega)
    clear hv hv0 h4 hb h3
    go_wp2_with (first | (go_at_call 43; refine HC.out.mono ?_; rintro e w2 ⟨rfl, n, os, rfl⟩))
    go_ret
    have hpm : (xs.mergeSort fun x y => decide (x ≤ y)).Perm xs := List.mergeSort_perm _ _
    have hso : (xs.mergeSort fun x y => decide (x ≤ y)).Pairwise (· ≤ ·) := by
      have := List.pairwise_mergeSort (le := fun x y : Int => decide (x ≤ y)) (fun a b c h1 h2 => by simp at *; omega) (fun a b => by simp; omega) xs
      simpa using this
    have hys := sorted_unique (hpm.trans HP.out) hso HS.out
    rw [hys]
    have hr := ownsRow_sortedI (n := n) (os := os) (ss := xs) (ts := m.map (·.1)) hlen.symm hg HB.out h1 h2 H3.out
    refine ⟨_, rfl, ?_, HMd.out.grown (grownBy_sortedI _) (fun g' e hl => by cases e; omega)⟩
    rw [hlen] at hr
    have h6 : Value.slice (some ⟨g, 0, none⟩) (m.map (·.1)).length cap = .slice none 0 0 ↔ m.map (·.1) = [] := by
      constructor
      · intro e
        cases e
      · intro e
        exact absurd (List.eq_nil_of_length_eq_zero (by rw [hlen, e]; rfl)) hnil
    have h5 := intsV_of_own hr h6
    rw [List.length_map] at h5
    exact h5
end Go.Proofs.Ytpknhgimcabfcaa.Srt
