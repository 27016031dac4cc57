/-
  A SHORT SLICE OF int IS SORTED: cmp.Less, slices.insertionSortOrdered, and what slices.Sort does to at most twelve.
  Condition: at most twelve elements.
-/
import Derived.Test.YtpknhgimcabfcaaOMapWalk
import Derived.Test.YtpknhgimcabfcaaRows
import Derived.Deep.RegionWith
import Derived.BigQuiet
import Derived.Deep.QuietTactic
namespace Go.Proofs.Ytpknhgimcabfcaa.Srt
open Go.RowKit Go.Proofs.Om

/-- block g is a row whose first numbers are xs -/
def RowI (w : World) (g : Nat) (t : TypeId) (q : IntKind) (xs : List Int) : Prop :=
  ∃ cur, w.heap[g]? = some (.cells cur t (0, 0)) ∧ xs.length ≤ cur.size ∧ ∀ (k : Nat) (x : Int), xs[k]? = some x → cur[k]? = some (.int q x)

section
variable {w w' : World} {g : Nat} {t : TypeId} {q : IntKind} {xs ys : List Int}
theorem RowI.cell (h : RowI w g t q xs) {k : Nat} {x : Int} (hx : xs[k]? = some x) : w.cell? ⟨g, k, none⟩ = some (.int q x) := by
  obtain ⟨cur, h1, _, h3⟩ := h
  simp [World.cell?, h1, h3 k x hx]
theorem RowI.free (h : RowI w g t q xs) (k : Nat) : w.frozen? ⟨g, k, none⟩ = false := by
  obtain ⟨cur, h1, _, h3⟩ := h
  simp [World.frozen?, h1]
theorem RowI.keep (h : RowI w g t q xs) (hb : w'.heap[g]? = w.heap[g]?) : RowI w' g t q xs := by
  obtain ⟨cur, h1, h2⟩ := h
  exact ⟨cur, hb.trans h1, h2⟩
theorem RowI.mod {l : List Nat} (h : RowI w g t q xs) (k : Mod l w w') (hg : g ∉ l) : RowI w' g t q xs := by
  obtain ⟨cur, h1, h2⟩ := h
  exact ⟨cur, k.heap h1 hg, h2⟩
theorem RowI.drew (h : RowI w g t q xs) (n : Nat) : RowI (w.drewN n) g t q xs := h
theorem RowI.lt (h : RowI w g t q xs) : g < w.heap.size := by
  obtain ⟨cur, h1, h2⟩ := h
  exact (Array.getElem?_eq_some_iff.1 h1).1
theorem RowI.set (h : RowI w g t q xs) (k : Nat) (v : Int) : RowI (w.setCell ⟨g, k, none⟩ (.int q v)) g t q (xs.set k v) := by
  obtain ⟨cur, h1, h2, h3⟩ := h
  refine ⟨cur.setIfInBounds k (.int q v), ?_, by simpa using h2, ?_⟩
  · show (w.heap.modify g _)[g]? = _
    rw [Array.getElem?_modify, if_pos rfl, h1]
    rfl
  · intro j x hx
    rw [List.getElem?_set] at hx
    rw [Array.getElem?_setIfInBounds]
    split at hx
    · rename_i e
      subst e
      split at hx
      · rename_i hl
        cases hx
        rw [if_pos rfl, if_pos (by omega)]
      · cases hx
    · rename_i e
      rw [if_neg e]
      exact h3 j x hx
end

theorem isNaN_calls (x : Int) (w : World) :
    Calls Try.prog 75 #[.int .i64 x] w fun e w' => e = .returned (.bool false) ∧ w' = w := by
  have hx : (x != x) = false := by simp
  go_enter Try.func75, Try.ntmps75
  go_wp2
  go_ret
  exact ⟨rfl, rfl⟩

theorem less_calls (x y : Int) (w : World) :
    Calls Try.prog 65 #[.int .i64 x, .int .i64 y] w fun e w' => e = .returned (.bool (decide (x < y))) ∧ w' = w := by
  go_enter Try.func65, Try.ntmps65
  go_wp2_with (first | (go_at_call 75; refine (isNaN_calls _ _).mono ?_; rintro e w' ⟨rfl, rfl⟩))
  go_ret
  exact ⟨rfl, rfl⟩

theorem swap_row (A B : List Int) (y v : Int) : ((A ++ y :: v :: B).set (A.length + 1) y).set A.length v = A ++ v :: y :: B := by
  simp

theorem ins_perm (A R : List Int) (v : Int) (j : Nat) : ((A.take j ++ v :: A.drop j) ++ R).Perm (A ++ v :: R) := by
  have h1 : (A.take j ++ v :: A.drop j).Perm (v :: A) := by
    have := List.perm_middle (a := v) (l₁ := A.take j) (l₂ := A.drop j)
    rwa [List.take_append_drop] at this
  have h2 : (A ++ v :: R).Perm (v :: A ++ R) := List.perm_middle
  exact (h1.append_right R).trans h2.symm
theorem ins_sorted {A : List Int} {v : Int} {j : Nat} (hA : A.Pairwise (· ≤ ·)) (hd : ∀ y ∈ A.drop j, v ≤ y) (ht : ∀ y ∈ A.take j, y ≤ v) : (A.take j ++ v :: A.drop j).Pairwise (· ≤ ·) := by
  rw [← List.take_append_drop j A] at hA
  obtain ⟨h1, h2, h3⟩ := List.pairwise_append.1 hA
  refine List.pairwise_append.2 ⟨h1, List.pairwise_cons.2 ⟨hd, h2⟩, fun a ha b hb => ?_⟩
  rcases List.mem_cons.1 hb with rfl | hb
  · exact ht a ha
  · exact h3 a ha b hb
theorem drop_pred {A : List Int} {j : Nat} {p : Int} (hj : 1 ≤ j) (hp : A[j - 1]? = some p) : A.drop (j - 1) = p :: A.drop j := by
  obtain ⟨hl, e⟩ := List.getElem?_eq_some_iff.1 hp
  rw [List.drop_eq_getElem_cons hl, e, show j - 1 + 1 = j by omega]

set_option maxHeartbeats 1000000 in
theorem ins_calls (g cap n : Nat) (xs : List Int) (w : World) (h : RowI w g 3 .i64 xs) (hn : xs.length = n) (hs : n < 4611686018427387904) :
    Calls Try.prog 59 #[.slice (some ⟨g, 0, none⟩) n cap, .int .i64 0, .int .i64 n] w fun e w' => e = .returned (.tuple #[]) ∧ ∃ ys, ys.Perm xs ∧ ys.Pairwise (· ≤ ·) ∧ RowI w' g 3 .i64 ys ∧ Mod [g] w w' := by
  have H := hid h
  have HN := hid hn
  clear h hn
  go_enter Try.func59, Try.ntmps59
  go_wp2
  go_loopw [6] (fun vi wr => ∃ (i : Nat) (A R : List Int), vi = .int .i64 i ∧ 1 ≤ i ∧ i ≤ n + 1 ∧ Hid ((n = 0 ∨ A.length = i) ∧ (A ++ R).Perm xs ∧ A.Pairwise (· ≤ ·) ∧ RowI wr g 3 .i64 (A ++ R) ∧ Mod [g] w wr)) (fun vi _ => n + 1 - (intOf vi).toNat)
  case atStart =>
    cases xs with
    | nil => exact ⟨1, [], [], rfl, by omega, by omega, hid ⟨.inl (by have := HN.out; simpa using this.symm), List.Perm.refl _, List.Pairwise.nil, H.out, Mod.refl _ _⟩⟩
    | cons x xs => exact ⟨1, [x], xs, rfl, by omega, by have := HN.out; simp at this; omega, hid ⟨.inr rfl, List.Perm.refl _, List.pairwise_singleton _ _, H.out, Mod.refl _ _⟩⟩
  case round =>
    obtain ⟨i, A, R, rfl, hi1, hi2, HI⟩ := hrel
    by_cases hin : i < n
    · obtain ⟨h1, h2, h3, h4, h5⟩ := HI.out
      have hAl : A.length = i := by rcases h1 with h1 | h1 <;> omega
      have hRl : (A ++ R).length = n := by rw [h2.length_eq]; exact HN.out
      cases R with
      | nil => simp at hRl; omega
      | cons v R =>
        have HA := hid hAl
        have H2 := hid h2
        have H3 := hid h3
        have H4 := hid h4
        have H5 := hid h5
        clear HI h1 h2 h3 h4 h5 hAl hRl
        go_wp2
        go_loopw [7] (fun vj wj => ∃ (j : Nat), vj = .int .i64 j ∧ j ≤ i ∧ Hid ((∀ y ∈ A.drop j, v ≤ y) ∧ RowI wj g 3 .i64 (A.take j ++ v :: (A.drop j ++ R)) ∧ Mod [g] w wj)) (fun vj _ => (intOf vj).toNat)
        case atStart =>
          refine ⟨i, rfl, Nat.le_refl _, hid ⟨?_, ?_, H5.out⟩⟩
          · rw [← HA.out, List.drop_length]; simp
          · rw [← HA.out, List.drop_length, List.take_length]; exact H4.out
        case round =>
          obtain ⟨j, rfl, hji, HJ⟩ := hrel
          by_cases hj : 1 ≤ j
          · have hjA : j - 1 < A.length := by rw [HA.out]; omega
            obtain ⟨p, hp⟩ : ∃ p, A[j - 1]? = some p := ⟨_, List.getElem?_eq_getElem hjA⟩
            have htk : A.take j = A.take (j - 1) ++ [p] := by
              obtain ⟨k, rfl⟩ : ∃ k, j = k + 1 := ⟨j - 1, by omega⟩
              rw [List.take_succ_eq_append_getElem (by simpa using hjA)]
              obtain ⟨_, e⟩ := List.getElem?_eq_some_iff.1 hp
              simp only [Nat.add_sub_cancel] at e ⊢
              rw [e]
            have hlen : (A.take (j - 1)).length = j - 1 := by simp; omega
            have hJ := HJ.out
            rw [htk] at hJ
            simp only [List.append_assoc, List.cons_append, List.nil_append] at hJ
            have c0 : wr.cell? ⟨g, j - 1, none⟩ = some (.int .i64 p) := hJ.2.1.cell (by rw [List.getElem?_append_right (by omega), hlen]; simp)
            have c1 : wr.cell? ⟨g, j, none⟩ = some (.int .i64 v) := hJ.2.1.cell (by rw [List.getElem?_append_right (by omega), hlen, show j - (j - 1) = 1 by omega]; simp)
            have f0 : wr.frozen? ⟨g, j - 1, none⟩ = false := hJ.2.1.free _
            have f1 : wr.frozen? ⟨g, j, none⟩ = false := hJ.2.1.free _
            have HK := hid hJ
            have HP := hid hp
            have HT := hid htk
            have HLn := hid hlen
            clear hJ hp htk hlen HJ hjA
            have hgt : decide (0 < j) = true := by simp; omega
            by_cases hl : v < p
            · have hld : decide (v < p) = true := by simpa using hl
              clear hl
              go_wp2
              go_quiet ((go_at_call 65; exact Calls.quiet_of_same (less_calls _ _ _)))
              go_wp2
              go_region
              all_goals go_wp2
              obtain ⟨k1, k2, k3⟩ := HK.out
              refine ⟨⟨j - 1, by congr 1; omega, by omega, hid ⟨?_, ?_, ?_⟩⟩, by simp [intOf]; omega⟩
              · rw [drop_pred hj HP.out]
                intro y hy
                rcases List.mem_cons.1 hy with rfl | hy
                · exact Int.le_of_lt (by simpa using hld)
                · exact k1 y hy
              · have e := swap_row (A.take (j - 1)) (A.drop j ++ R) p v
                rw [HLn.out, show j - 1 + 1 = j by omega] at e
                rw [drop_pred hj HP.out, List.cons_append, ← e]
                exact ((k2.drew (nq + 1)).set j p).set (j - 1) v
              · exact ((k3.drewN _).setCell (by simp) _).setCell (by simp) _
            · have hld : decide (v < p) = false := by simpa using hl
              have HL := hid hl
              clear hl
              go_wp2
              go_quiet ((go_at_call 65; exact Calls.quiet_of_same (less_calls _ _ _)))
              go_wp2
              go_roundw
              case rel =>
                obtain ⟨k1, k2, k3⟩ := HK.out
                refine ⟨i + 1, A.take j ++ v :: A.drop j, R, by go_num, by omega, by omega, hid ⟨.inr ?_, (ins_perm A R v j).trans H2.out, ins_sorted H3.out k1 ?_, ?_, k3.drewN _⟩⟩
                · have := HA.out; simp; omega
                · have hs := H3.out
                  rw [← List.take_append_drop j A, HT.out] at hs
                  have hs := (List.pairwise_append.1 hs).1
                  have hpv : p ≤ v := by have := HL.out; omega
                  rw [HT.out]
                  intro y hy
                  rcases List.mem_append.1 hy with hy | hy
                  · exact Int.le_trans ((List.pairwise_append.1 hs).2.2 y hy p (by simp)) hpv
                  · simp at hy; omega
                · rw [HT.out]
                  simpa using k2.drew nq
              case measure => simp [intOf]; omega
          · have hgt : decide (0 < j) = false := by simp; omega
            go_wp2
            go_quiet (fail)
            go_wp2
            go_roundw
            case rel =>
              obtain ⟨k1, k2, k3⟩ := HJ.out
              refine ⟨i + 1, A.take j ++ v :: A.drop j, R, by go_num, by omega, by omega, hid ⟨.inr ?_, (ins_perm A R v j).trans H2.out, ins_sorted H3.out k1 ?_, ?_, k3.drewN _⟩⟩
              · have := HA.out; simp; omega
              · rw [show j = 0 by omega]; simp
              · simpa using k2.drew nq
            case measure => simp [intOf]; omega
    · go_wp2
      go_end0
      obtain ⟨h1, h2, h3, h4, h5⟩ := HI.out
      have hAl := HN.out
      have : A ++ R = A := by
        have := h2.length_eq
        simp at this ⊢
        rcases h1 with h1 | h1
        · exact List.eq_nil_of_length_eq_zero (by omega)
        · exact List.eq_nil_of_length_eq_zero (by omega)
      rw [this] at h2 h4
      exact ⟨rfl, A, h2, h3, h4, h5⟩
end Go.Proofs.Ytpknhgimcabfcaa.Srt
