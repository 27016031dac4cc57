/-
  slices.Sort of at most twelve int; slices.Sorted(maps.Keys(m)) of a map with at most twelve keys.
  Condition: at most twelve.
-/
import Derived.Test.YtpknhgimcabfcaaSrtAI
import Derived.Test.YtpknhgimcabfcaaLen
import Derived.Test.YtpknhgimcabfcaaKeysCI
namespace Go.Proofs.Ytpknhgimcabfcaa.Srt
open Go.RowKit Go.Proofs.Om Go.Proofs.Ytpknhgimcabfcaa.Keys

set_option maxHeartbeats 400000 in
theorem pdq_small (g cap n : Nat) (L : Int) (xs : List Int) (w : World) (h : RowI w g 3 .i64 xs) (hn : xs.length = n) (hs : n ≤ 12) :
    Calls Try.prog 55 #[.slice (some ⟨g, 0, none⟩) n cap, .int .i64 0, .int .i64 n, .int .i64 L] w fun e w' => e = .returned (.tuple #[]) ∧ ∃ ys, ys.Perm xs ∧ ys.Pairwise (· ≤ ·) ∧ RowI w' g 3 .i64 ys ∧ Mod [g] w w' := by
  have HC := hid (ins_calls g cap n xs w h hn (by omega))
  clear h hn
  go_enter Try.func55, Try.ntmps55
  go_wp2_with fail
  refine wp_loop_once ?_
  have h12 : decide (n ≤ 12) = true := by simpa using hs
  go_wp2_with (first | (go_at_call 59; refine HC.out.mono ?_; rintro e w' ⟨rfl, h⟩; have HH := hid h; clear h))
  refine bodyPost_ret (results_none rfl _ _ _) rfl ?_
  exact ⟨rfl, HH.out⟩

theorem sort_small (g cap n : Nat) (xs : List Int) (w : World) (h : RowI w g 3 .i64 xs) (hn : xs.length = n) (hs : n ≤ 12) :
    Calls Try.prog 43 #[.slice (some ⟨g, 0, none⟩) n cap] w fun e w' => e = .returned (.tuple #[]) ∧ ∃ ys, ys.Perm xs ∧ ys.Pairwise (· ≤ ·) ∧ RowI w' g 3 .i64 ys ∧ Mod [g] w w' := by
  have HC := fun L => hid (pdq_small g cap n L xs w h hn hs)
  clear h hn
  go_enter Try.func43, Try.ntmps43
  go_wp2_with (first
    | (go_at_call 56; refine (len_calls _ _ (by omega) (by omega)).mono ?_; rintro e w' ⟨L, hL0, hL1, rfl, rfl⟩)
    | (go_at_call 55; refine (HC _).out.mono ?_; rintro e w' ⟨rfl, h⟩; have HH := hid h; clear h))
  go_end0
  exact ⟨rfl, HH.out⟩

theorem ins_none (w : World) : Calls Try.prog 59 #[.slice none 0 0, .int .i64 0, .int .i64 0] w fun e w' => e = .returned (.tuple #[]) ∧ w' = w := by
  go_enter Try.func59, Try.ntmps59
  go_wp2_with fail
  refine wp_loop_once ?_
  go_wp2
  go_end0
  exact ⟨rfl, rfl⟩

theorem pdq_none (L : Int) (w : World) : Calls Try.prog 55 #[.slice none 0 0, .int .i64 0, .int .i64 0, .int .i64 L] w fun e w' => e = .returned (.tuple #[]) ∧ w' = w := by
  go_enter Try.func55, Try.ntmps55
  go_wp2_with fail
  refine wp_loop_once ?_
  go_wp2_with (first | (go_at_call 59; refine (ins_none _).mono ?_; rintro e w' ⟨rfl, rfl⟩))
  refine bodyPost_ret (results_none rfl _ _ _) rfl ?_
  exact ⟨rfl, rfl⟩

theorem sort_none (w : World) : Calls Try.prog 43 #[.slice none 0 0] w fun e w' => e = .returned (.tuple #[]) ∧ w' = w := by
  go_enter Try.func43, Try.ntmps43
  go_wp2_with (first
    | (go_at_call 56; refine (len_calls _ _ (by omega) (by omega)).mono ?_; rintro e w' ⟨L, hL0, hL1, rfl, rfl⟩)
    | (go_at_call 55; refine (pdq_none _ _).mono ?_; rintro e w' ⟨rfl, rfl⟩))
  go_end0
  exact ⟨rfl, rfl⟩

/-- the keys of a map, rising -/
theorem sorted_unique : ∀ {xs ys : List Int}, xs.Perm ys → xs.Pairwise (· ≤ ·) → ys.Pairwise (· ≤ ·) → xs = ys := by
  intro xs ys hp hx hy
  exact hp.eq_of_pairwise (fun a b _ _ h1 h2 => Int.le_antisymm h1 h2) hx hy

theorem asc_le {V : Type} {m : List (Int × V)} (h : Asc m) : (m.map (·.1)).Pairwise (· ≤ ·) := by
  rw [List.pairwise_map]
  exact h.imp fun h => Int.le_of_lt h

theorem sorted_small {V : Type} {enc : V → Value} (Bm b : Nat) (m : List (Int × V)) (hN : m.length ≤ 12) (w : World)
    (hBm : Bm < w.heap.size) (hm : w.cell? ⟨Bm, 0, none⟩ = some (.map (some b))) (hM : MapAt w b .i64 enc m) :
    Calls Try.prog 28 #[.func (.func 44) #[] #[.pointer (some ⟨Bm, 0, none⟩)]] w fun e W' =>
      ∃ (v : Value), e = .returned v ∧ IntsV W' w.heap.size v 3 .i64 (m.map (·.1)) ∧ Mod [] w W' := by
  have HA := hid (collect_calls Bm b m (by omega) w hBm hm hM)
  have HS := hid (asc_le hM.asc)
  clear hM hm
  go_enter Try.func28, Try.ntmps28
  go_wp2_with (first | (go_at_call 42; refine HA.out.mono ?_; rintro e w1 ⟨v, xs, rfl, hp, hv, hmod⟩))
  have HP := hid hp
  have HMd := hid hmod
  clear hp hmod
  rcases hv with ⟨rfl, rfl⟩ | ⟨g, cap, rfl, hg, hne, hrow⟩
  · go_wp2_with (first | (go_at_call 43; refine (sort_none _).mono ?_; rintro e w' ⟨rfl, rfl⟩))
    go_ret
    have : m.map (·.1) = [] := HP.out.symm.eq_nil
    exact ⟨_, rfl, .inl ⟨rfl, this⟩, HMd.out⟩
  · have hl : xs.length ≤ 12 := by have := HP.out.length_eq; simp at this; omega
    have HR := hid hrow
    have HG := hid hg
    have HNe := hid hne
    clear hrow hg hne
    go_wp2_with (first | (go_at_call 43; refine (sort_small g cap _ xs _ HR.out rfl hl).mono ?_; rintro e w2 ⟨rfl, ys, hp2, hs2, hr2, hm2⟩))
    go_ret
    have hys : ys = m.map (·.1) := sorted_unique (hp2.trans HP.out) hs2 HS.out
    have hlen : xs.length = (m.map (·.1)).length := HP.out.length_eq
    refine ⟨_, rfl, .inr ⟨g, cap, by rw [← hlen]; rfl, HG.out, ?_, by rw [← hys]; exact hr2⟩, HMd.out.then hm2 (by intro j hj hjl; simp at hj; subst hj; have := HG.out; omega)⟩
    rintro e
    rw [e] at hlen
    exact HNe.out (List.eq_nil_of_length_eq_zero (by simpa using hlen))
end Go.Proofs.Ytpknhgimcabfcaa.Srt
