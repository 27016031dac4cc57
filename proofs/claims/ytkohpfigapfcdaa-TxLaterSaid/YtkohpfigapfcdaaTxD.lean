/-
  THE LAW's OWN HELPERS: same, base, awake.
  Condition: as of Changes.
-/
import Derived.Test.YtkohpfigapfcdaaDo
namespace Go.Proofs.Ytkohpfigapfcdaa.Tx
open Go.RowKit Go.Proofs.Om

set_option maxHeartbeats 400000 in
theorem same_calls (p b : Nat) (base : Value) (own : List (Int × Ch)) (recs : List Bd) (A : Option Addr) (c : Nat) (l : List Bd) (w : World) (h : TxAt w p base b own) (hb : BaseAt w base recs) (hA : BodiesAt w A l) (hl : l.length < 4611686018427387904)
    (he : ∀ id : Int, 0 ≤ id → id < 9 → getR id own recs = find id l) :
    Calls Try.prog 12 #[.pointer (some ⟨p, 0, none⟩), .slice A l.length c] w fun e w' => e = .returned (.bool true) ∧ Mod [] w w' := by
  have H := hid h
  have HB := hid hb
  have HA := hid hA
  have HE := hid he
  clear h hb hA he
  go_enter Try.func12, Try.ntmps12
  go_wp2
  go_loopw [5] (fun vi wr => ∃ (k : Nat), k ≤ 9 ∧ vi = .int .u64 k ∧ Hid (Mod [] w wr)) (fun vi _ => 9 - (intOf vi).toNat)
  case atStart => exact ⟨0, by omega, rfl, hid (Mod.refl _ _)⟩
  case round =>
    obtain ⟨k, hk, rfl, HM⟩ := hrel
    by_cases hlt : k < 9
    · have e := HE.out k (by omega) (by omega)
      have hg := get_calls p b base own recs k wr (H.out.mod HM.out (by simp) (by simp)) (HB.out.mod0 HM.out)
      have hf := fun w1 (hm : Mod [] wr w1) => find_calls A c l k w1 ((HA.out.mod0 HM.out).mod0 hm) hl
      rw [e] at hg
      generalize find (k : Int) l = r at *
      obtain ⟨rs, ri⟩ := r
      have HG := hid hg
      have HF := hid hf
      clear hg hf e
      have q1 : (ri != ri) = false := by simp
      have q2 : (rs.toList == rs.toList) = true := str_yes rfl
      go_wp2_with (first
        | (go_at_call 14; refine HG.out.mono ?_; rintro e w1 ⟨rfl, hm⟩; have HM1 := hid hm; clear hm)
        | (go_at_call 18; refine (HF.out _ HM1.out).mono ?_; rintro e w' ⟨rfl, rfl⟩))
      go_roundw
      case rel => exact ⟨k + 1, by omega, by go_num, hid (HM.out.trans HM1.out)⟩
      case measure => simp [intOf]; omega
    · go_wp2
      go_ret
      exact ⟨rfl, HM.out⟩

theorem chs_of_own {w : World} {lo : Nat} {A : Option Addr} {n c : Nat} {l : List Ch} (h : OwnL w lo 31 3 cellsC (.slice A n c) l) : ChsAt w A l := fun j x hx => by
  obtain ⟨g, cap, e, _, h0⟩ := h.cell cellsC_len hx (i := 0) (u := .int .u64 x.id) rfl
  obtain ⟨g', cap', e', _, h1⟩ := h.cell cellsC_len hx (i := 1) (u := .string x.s) rfl
  obtain ⟨g'', cap'', e'', _, h2⟩ := h.cell cellsC_len hx (i := 2) (u := .bool x.gone) rfl
  cases e; cases e'; cases e''
  exact ⟨g, 0, rfl, by simpa using h0, by simpa using h1, by simpa using h2⟩

def baseC (l : List Ch) : List Ch := (l.take 12).filter fun c => !c.gone && decide (c.id < 8)
def baseL (l : List Ch) : List Bd := doL [] (baseC l)
theorem baseC_take {l : List Ch} {k : Nat} {c : Ch} (h : l[k]? = some c) : ((l.take (k + 1)).filter fun c => !c.gone && decide (c.id < 8)) = ((l.take k).filter fun c => !c.gone && decide (c.id < 8)) ++ (if !c.gone && decide (c.id < 8) then [c] else []) := by
  obtain ⟨hk, rfl⟩ := List.getElem?_eq_some_iff.1 h
  rw [List.take_succ_eq_append_getElem hk, List.filter_append]
  congr 1
  simp only [List.filter_cons, List.filter_nil]

set_option maxHeartbeats 1000000 in
theorem base_calls (A : Option Addr) (c : Nat) (l : List Ch) (w : World) (hA : ChsAt w A l) (hl : l.length < 4611686018427387904) :
    Calls Try.prog 5 #[.slice A l.length c] w fun e w' => ∃ A' c', e = .returned (.slice A' (baseL l).length c') ∧ BodiesAt w' A' (baseL l) ∧ Mod [] w w' := by
  have HA := hid hA
  clear hA
  go_enter Try.func5, Try.ntmps5
  go_wp2_with fail
  go_loopw [3, 4] (fun vo vi wr => ∃ (k : Nat), k ≤ l.length ∧ k ≤ 12 ∧ vi = .int .i64 k ∧ Hid (OwnL wr w.heap.size 31 3 cellsC vo ((l.take k).filter fun c => !c.gone && decide (c.id < 8)) ∧ Mod [] w wr)) (fun _ vi _ => 12 - (intOf vi).toNat)
  case atStart => exact ⟨0, by omega, by omega, rfl, hid ⟨OwnL.empty (Nat.le_refl _) (MapKept.heap_alloc w _).1, (Mod.refl [] w).alloc _⟩⟩
  case round =>
    obtain ⟨k, hk, hk12, rfl, HI⟩ := hrel
    by_cases hlt : k < l.length ∧ k < 12
    · obtain ⟨hlt, h12⟩ := hlt
      have hlk : l[k]? = some l[k] := List.getElem?_eq_getElem hlt
      obtain ⟨gb, o, rfl, h0, h1, h2⟩ := (HA.out.mod0 HI.out.2) k l[k] hlk
      have ht := baseC_take hlk
      generalize l[k] = x at *
      obtain ⟨id, s, gone⟩ := x
      dsimp only at h0 h1 h2 ht
      have HT := hid ht
      have HO := hid HI.out.1
      have HM := hid HI.out.2
      have hlen : ((l.take k).filter fun c => !c.gone && decide (c.id < 8)).length ≤ 12 := Nat.le_trans (List.length_filter_le _ _) (by simp; omega)
      clear ht hlk HI
      cases gone with
      | true =>
        have HE := hid (HT.out.trans (by simp : _ = ((l.take k).filter fun c => !c.gone && decide (c.id < 8))))
        clear HT
        go_wp2
        go_roundw
        case rel => exact ⟨k + 1, by omega, by omega, by go_num, hid ⟨by rw [HE.out]; exact HO.out, HM.out⟩⟩
        case measure => simp [intOf]; omega
      | false =>
        by_cases hid8 : id < 8
        · have hd : decide (id < 8) = true := by simpa using hid8
          have HE := hid (HT.out.trans (by simp [hid8] : _ = ((l.take k).filter fun c => !c.gone && decide (c.id < 8)) ++ [⟨id, s, false⟩]))
          clear HT hid8
          go_wp2_with (first
            | (at_builtin; refine wpList_append_one rfl _ _ _ rfl 31 _ 32 Try.underlying22 infoC rfl (by decide) cellsC_len _ rfl (HO.out.mod0 ((Mod.refl [] _).alloc _)) ⟨id, s, false⟩ _ rfl (cellC_new _ _ ⟨id, s, false⟩ _ (by simp)) (cellsC_one _) (by omega) (by omega) (by have := HM.out.size; simp at this ⊢; omega) ?_; rintro v' w3 ho hg ⟨g', cap', rfl⟩; have HO2 := hid ho; have HM2 := hid ((HM.out.alloc _).appended (HO.out.mod0 ((Mod.refl [] _).alloc _)) (Nat.le_refl _) hg); clear ho hg))
          go_roundw
          case rel => exact ⟨k + 1, by omega, by omega, by go_num, hid ⟨by rw [HE.out]; exact HO2.out, HM2.out⟩⟩
          case measure => simp [intOf]; omega
        · have hd : decide (id < 8) = false := by simpa using hid8
          have HE := hid (HT.out.trans (by simp [hid8] : _ = ((l.take k).filter fun c => !c.gone && decide (c.id < 8))))
          clear HT hid8
          go_wp2
          go_roundw
          case rel => exact ⟨k + 1, by omega, by omega, by go_num, hid ⟨by rw [HE.out]; exact HO.out, HM.out⟩⟩
          case measure => simp [intOf]; omega
    · have hE : ((l.take k).filter fun c => !c.gone && decide (c.id < 8)) = baseC l := by
        unfold baseC
        congr 1
        rcases Nat.lt_or_ge k 12 with h | h
        · have : k = l.length := by omega
          rw [this, List.take_length, List.take_of_length_le (by omega)]
        · rw [show k = 12 by omega]
      have HE := hid hE
      have HO := hid HI.out.1
      have HM := hid HI.out.2
      clear hE HI
      rw [HE.out] at HO
      obtain ⟨A6, c6, rfl, _⟩ := HO.out.form
      have hlen : (baseC l).length ≤ 12 := Nat.le_trans (List.length_filter_le _ _) (by simp; omega)
      have HD := hid (do_calls none A6 0 c6 [] (baseC l) _ (fun j x hx => by simp at hx) (chs_of_own HO.out) (by simp; omega))
      clear hlen
      by_cases hll : k < l.length
      · have h12 : ¬ k < 12 := by omega
        go_wp2_with (first | (go_at_call 9; refine HD.out.mono ?_; rintro e w2 ⟨A7, c7, rfl, h, hm⟩; have HH := hid h; have HM2 := hid hm; clear h hm))
        go_ret
        exact ⟨A7, c7, rfl, HH.out, HM.out.trans HM2.out⟩
      · go_wp2_with (first | (go_at_call 9; refine HD.out.mono ?_; rintro e w2 ⟨A7, c7, rfl, h, hm⟩; have HH := hid h; have HM2 := hid hm; clear h hm))
        go_ret
        exact ⟨A7, c7, rfl, HH.out, HM.out.trans HM2.out⟩

abbrev one : ByteArray := ⟨#[111, 110, 101]⟩
abbrev two : ByteArray := ⟨#[116, 119, 111]⟩

theorem BaseAt.shape {w : World} {base : Value} {recs : List Bd} (h : BaseAt w base recs) : base = .nilFunc ∨ ∃ f a c, base = .func f a c := by
  rcases h with ⟨h, _⟩ | ⟨g, A, c, h, _⟩
  · exact .inl h
  · exact .inr ⟨_, _, _, h⟩

set_option maxHeartbeats 1000000 in
theorem awake_calls (w : World) :
    Calls Try.prog 11 #[] w fun e w' => e = .returned (.bool true) ∧ Mod [] w w' := by
  have h1 : BodiesAt (w.alloc (.cells #[.int .u64 1, .string one] 48)) (some ⟨w.heap.size, 0, none⟩) [⟨1, one⟩] := by
    intro j x hx
    cases j with
    | zero => simp at hx; subst hx; exact ⟨w.heap.size, 0, rfl, by simp, by simp⟩
    | succ j => simp at hx
  have H1 := hid h1
  clear h1
  obtain ⟨own, HO, HG1, HG2, HG3, HG4⟩ : ∃ own : List (Int × Ch), Hid (put 2 ⟨2, two, false⟩ [] = own) ∧ Hid (getR 1 own [⟨1, one⟩] = (one, true)) ∧ Hid (getR 2 own [⟨1, one⟩] = (two, true)) ∧ Hid ((changesR own [⟨1, one⟩]).length = 1) ∧ Hid (own.length = 1) :=
    ⟨_, hid rfl, hid rfl, hid rfl, hid rfl, hid rfl⟩
  have q1 : (one.toList == one.toList) = true := str_yes rfl
  have q2 : (two.toList == two.toList) = true := str_yes rfl
  go_enter Try.func11, Try.ntmps11
  go_wp2_with (first
    | (go_at_call 7; refine (getter_calls _ 1 [⟨1, one⟩] _ H1.out (by simp)).mono ?_; rintro e w1 ⟨v, rfl, hb, hm⟩; have HB := hid hb; have HM := hid (((Mod.refl [] w).alloc _).trans hm); clear hb hm)
    | (go_at_call 6; refine (new_calls _ _ HB.out.shape).mono ?_; rintro e w2 ⟨p, b, rfl, ht, hp, hbb, hm⟩; have HT := hid ht; have HB2 := hid (HB.out.mod0 hm); have HM2 := hid (HM.out.trans hm); have HN := hid (show w.heap.size ≤ b by have := HM.out.size; omega); clear ht hm)
    | (go_at_call 13; refine (put_calls p b _ _ 2 two _ HT.out).mono ?_; rintro e w3 ⟨rfl, ht, hm⟩; have HT3 := hid (HO.out ▸ ht : TxAt w3 p v b own); have HB3 := hid (HB2.out.modM hm.mod HT.out.2); have HM3 := hid (HM2.out.then hm.mod (by intro j hj hl; simp at hj; have := HN.out; omega)); clear ht hm)
    | (go_at_call 14; have hg := get_calls p b _ _ [⟨1, one⟩] 2 _ HT4.out HB4.out; rw [HG2.out] at hg; refine hg.mono ?_; clear hg; rintro e w5 ⟨rfl, hm⟩; have HT5 := hid (HT4.out.mod hm (by simp) (by simp)); have HB5 := hid (HB4.out.mod0 hm); have HM5 := hid (HM4.out.trans hm); clear hm)
    | (go_at_call 14; have hg := get_calls p b _ _ [⟨1, one⟩] 1 _ HT3.out HB3.out; rw [HG1.out] at hg; refine hg.mono ?_; clear hg; rintro e w4 ⟨rfl, hm⟩; have HT4 := hid (HT3.out.mod hm (by simp) (by simp)); have HB4 := hid (HB3.out.mod0 hm); have HM4 := hid (HM3.out.trans hm); clear hm)
    | (go_at_call 10; refine (changes_calls p b _ _ [⟨1, one⟩] _ HT5.out HB5.out (by rw [HG4.out]; decide)).mono ?_; rintro e w6 ⟨v6, rfl, ho6, hm⟩; obtain ⟨A6, c6, rfl, _⟩ := ho6.form; rw [HG3.out]; have HM6 := hid (HM5.out.trans hm); clear hm ho6)
    )
  go_ret
  exact ⟨rfl, HM6.out⟩
end Go.Proofs.Ytkohpfigapfcdaa.Tx
