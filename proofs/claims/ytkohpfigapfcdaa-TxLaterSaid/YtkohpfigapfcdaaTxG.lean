/-
  TxLater: THE WALK.
  No condition but that the slices fit in memory.
-/
import Derived.Test.YtkohpfigapfcdaaTxD
import Derived.Test.YtkohpfigapfcdaaTxLawP
namespace Go.Proofs.Ytkohpfigapfcdaa.Tx
open Go.RowKit Go.Proofs.Om

def normC (c : Ch) : Ch := ⟨bits BinOp.and IntKind.u64 c.id 7, if c.gone then ⟨#[]⟩ else c.s, c.gone⟩
theorem and7 (x : Int) : 0 ≤ bits BinOp.and IntKind.u64 x 7 ∧ bits BinOp.and IntKind.u64 x 7 < 8 := by
  have e : bits BinOp.and IntKind.u64 x 7 = IntKind.u64.wrap ((BitVec.ofInt 64 x &&& BitVec.ofInt 64 7).toNat : Int) := rfl
  have h2 : (BitVec.ofInt 64 7).toNat = 7 := by decide
  rw [e, BitVec.toNat_and, h2, IntKind.wrap_u64]
  have := Nat.and_le_right (n := (BitVec.ofInt 64 x).toNat) (m := 7)
  omega
theorem ch_new (w : World) (o : Obj) (c : Ch) : ChsAt ((w.alloc o).alloc (.cells #[.int .u64 c.id, .string c.s, .bool c.gone] 31)) (some ⟨w.heap.size + 1, 0, none⟩) [c] := by
  intro j x hx
  cases j with
  | zero =>
    simp at hx
    subst hx
    refine ⟨w.heap.size + 1, 0, rfl, ?_⟩
    have h := fun i u => cellC_new (w.alloc o) 31 c (w.heap.size + 1) (by simp) i u
    exact ⟨h 0 _ rfl, h 1 _ rfl, h 2 _ rfl⟩
  | succ j => simp at hx
theorem baseL_len (l : List Ch) : (baseL l).length ≤ 12 := by
  have h := doL_len (baseC l) []
  have h2 : (baseC l).length ≤ 12 := Nat.le_trans (List.length_filter_le _ _) (by simp; omega)
  unfold baseL
  simp only [List.length_nil] at h
  omega
set_option maxHeartbeats 1000000 in
theorem later_calls (A B : Option Addr) (ca cb : Nat) (l1 l2 : List Ch) (w : World) (hA : ChsAt w A l1) (hB : ChsAt w B l2) (h1 : l1.length < 4611686018427387904) (h2 : l2.length < 4611686018427387904) :
    Calls Try.prog 3 #[.slice A l1.length ca, .slice B l2.length cb] w fun e w' => e = .returned (.bool true) ∧ Mod [] w w' := by
  have HA := hid hA
  have HB := hid hB
  clear hA hB
  go_enter Try.func3, Try.ntmps3
  go_wp2_with (first
    | (go_at_call 5; refine (base_calls A ca l1 _ HA.out h1).mono ?_; rintro e w1 ⟨A1, c1, rfl, hb, hm⟩; have HR := hid hb; have HM1 := hid hm; clear hb hm)
    | (go_at_call 7; refine (getter_calls A1 c1 (baseL l1) _ HR.out (by have := baseL_len l1; omega)).mono ?_; rintro e w2 ⟨v, rfl, hb, hm⟩; have HV := hid hb; have HM2 := hid (HM1.out.trans hm); have HR2 := hid (HR.out.mod0 hm); clear hb hm)
    | (go_at_call 6; refine (new_calls _ _ HV.out.shape).mono ?_; rintro e w3 ⟨p, b, rfl, ht, hp, hbb, hm⟩; have HT := hid ht; have HV3 := hid (HV.out.mod0 hm); have HM3 := hid (HM2.out.trans hm); have HN := hid (show w.heap.size ≤ b by have := HM2.out.size; omega); have HR3 := hid (HR2.out.mod0 hm); clear ht hm))
  go_loopw [7] (fun vi wr => ∃ (k : Nat), k ≤ l2.length ∧ k ≤ 20 ∧ vi = .int .i64 k ∧ Hid (TxAt wr p v b (((l2.take k).map normC).foldl (doR (baseL l1)) [])) ∧ Hid (Mod [b] w3 wr)) (fun vi _ => 20 - (intOf vi).toNat)
  case atStart => exact ⟨0, by omega, by omega, rfl, HT, hid (Mod.refl _ _)⟩
  case round =>
    obtain ⟨k, hk, hk20, rfl, HTr, HMr⟩ := hrel
    by_cases hlt : k < l2.length ∧ k < 20
    · obtain ⟨hlt, h20⟩ := hlt
      have hlk : l2[k]? = some l2[k] := List.getElem?_eq_getElem hlt
      have HBr := hid ((HB.out.mod0 HM3.out).modM HMr.out HT.out.2)
      obtain ⟨gb, o, rfl, g0, g1, g2⟩ := HBr.out k l2[k] hlk
      have hts : ((l2.take (k + 1)).map normC).foldl (doR (baseL l1)) [] = doR (baseL l1) (((l2.take k).map normC).foldl (doR (baseL l1)) []) (normC l2[k]) := by
        rw [List.take_succ_eq_append_getElem hlt, List.map_append, List.foldl_append]; rfl
      have HS := hid hts
      clear hts
      generalize l2[k] = x at *
      generalize ((l2.take k).map normC).foldl (doR (baseL l1)) [] = own at *
      obtain ⟨id, s, gone⟩ := x
      dsimp only at g0 g1 g2
      clear hlk
      have HVr := hid (HV3.out.modM HMr.out HT.out.2)
      cases gone with
      | true =>
        go_wp2_with (first | (go_at_call 8; refine (apply_calls p b v own (baseL l1) _ 1 [normC ⟨id, s, true⟩] _ (HTr.out.mod (((Mod.refl [] _).alloc _).alloc _) (by simp) (by simp)) (HVr.out.mod0 (((Mod.refl [] _).alloc _).alloc _)) (ch_new wr _ (normC ⟨id, s, true⟩)) (by simp)).mono ?_; rintro e w4 ⟨rfl, ht, hm⟩; have HT4 := hid ht; have HM4 := hid (((HMr.out.alloc _).alloc _).trans hm); clear ht hm))
        go_roundw
        case rel => exact ⟨k + 1, by omega, by omega, by go_num, by rw [HS.out]; exact HT4, HM4⟩
        case measure => simp [intOf]; omega
      | false =>
        go_wp2_with (first | (go_at_call 8; refine (apply_calls p b v own (baseL l1) _ 1 [normC ⟨id, s, false⟩] _ (HTr.out.mod (((Mod.refl [] _).alloc _).alloc _) (by simp) (by simp)) (HVr.out.mod0 (((Mod.refl [] _).alloc _).alloc _)) (ch_new wr _ (normC ⟨id, s, false⟩)) (by simp)).mono ?_; rintro e w4 ⟨rfl, ht, hm⟩; have HT4 := hid ht; have HM4 := hid (((HMr.out.alloc _).alloc _).trans hm); clear ht hm))
        go_roundw
        case rel => exact ⟨k + 1, by omega, by omega, by go_num, by rw [HS.out]; exact HT4, HM4⟩
        case measure => simp [intOf]; omega
    · have hwf := wf_fold (recs := baseL l1) ((l2.take k).map normC) [] asc_nil wf_nil (fun c hc => by
        obtain ⟨d, _, rfl⟩ := List.mem_map.1 hc
        exact and7 d.id)
      generalize ((l2.take k).map normC).foldl (doR (baseL l1)) [] = own at *
      have hlen := wf_len hwf.1 hwf.2
      have HL := hid (fun id => later own (baseL l1) hwf.1 hwf.2 id)
      have hbl := baseL_len l1
      have hcl := changesR_len own (baseL l1)
      have hdl := doL_len (changesR own (baseL l1)) (baseL l1)
      generalize hrecs : baseL l1 = recs at *
      clear hrecs
      generalize hnext : doL recs (changesR own recs) = next at *
      have HVr := hid (HV3.out.modM HMr.out HT.out.2)
      have HRr := hid (HR3.out.modM HMr.out HT.out.2)
      have HMw := hid (HM3.out.then HMr.out (by intro j hj hl; simp at hj; have := HN.out; omega))
      have HNX := hid hnext
      clear hnext hwf
      have tok0 := hid trivial
      by_cases hll : k < l2.length
      · have h20 : ¬ k < 20 := by omega
        go_wp2_with (first
          | (go_at_call 10; clear tok0; refine (changes_calls p b v own recs _ HTr.out HVr.out (by omega)).mono ?_; rintro e w4 ⟨v4, rfl, ho4, hm⟩; obtain ⟨A4, c4, rfl, _⟩ := ho4.form; have HO4 := hid (chs_of_own ho4); have HT4 := hid (HTr.out.mod hm (by simp) (by simp)); have HV4 := hid (HVr.out.mod0 hm); have HR4 := hid (HRr.out.mod0 hm); have HM4 := hid (HMw.out.trans hm); clear hm ho4; have tok1 := hid trivial)
          | (go_at_call 9; clear tok1; have hd := do_calls A1 A4 c1 c4 recs (changesR own recs) _ HR4.out HO4.out (by omega); rw [HNX.out] at hd; refine hd.mono ?_; clear hd; rintro e w5 ⟨A5, c5, rfl, hb, hm⟩; have HN5 := hid hb; have HT5 := hid (HT4.out.mod hm (by simp) (by simp)); have HV5 := hid (HV4.out.mod0 hm); have HM5 := hid (HM4.out.trans hm); clear hm hb; have tok2 := hid trivial)
          | (go_at_call 7; clear tok2; refine (getter_calls A5 c5 next _ HN5.out (by omega)).mono ?_; rintro e w6 ⟨v6, rfl, hb, hm⟩; have HG6 := hid hb; have HN6 := hid (HN5.out.mod0 hm); have HT6 := hid (HT5.out.mod hm (by simp) (by simp)); have HV6 := hid (HV5.out.mod0 hm); have HM6 := hid (HM5.out.trans hm); clear hm hb; have tok3 := hid trivial)
          | (go_at_call 6; clear tok3; refine (new_calls _ _ HG6.out.shape).mono ?_; rintro e w7 ⟨p7, b7, rfl, ht, hp7, hb7, hm⟩; have HU7 := hid ht; have HB7 := hid hb7; have HG7 := hid (HG6.out.mod0 hm); have HN7 := hid (HN6.out.mod0 hm); have HT7 := hid (HT6.out.mod hm (by simp) (by simp)); have HV7 := hid (HV6.out.mod0 hm); have HM7 := hid (HM6.out.trans hm); clear hp7 hb7; have HX7 := hid (show w.heap.size ≤ b7 by have := HM6.out.size; have := HB7.out; omega); have HX6 := hid (show b7 ≠ b by have := HT6.out.2.lt; have := HB7.out; omega); have HX5 := hid (show p ≠ b7 by have := (Array.getElem?_eq_some_iff.1 HT6.out.1).1; have := HB7.out; omega); clear hm ht; have tok4 := hid trivial)
          | (go_at_call 8; clear tok4; refine (apply_calls p7 b7 v6 [] next none 0 [] _ HU7.out HG7.out (fun j x hx => by simp at hx) (by simp)).mono ?_; rintro e w8 ⟨rfl, ht, hm⟩; have HU8 := hid ht; have HG8 := hid (HG7.out.modM hm HU7.out.2); have HN8 := hid (HN7.out.modM hm HU7.out.2); have HT8 := hid (HT7.out.mod hm (by simpa using HX5.out) (by simpa using HX6.out.symm)); have HV8 := hid (HV7.out.modM hm HU7.out.2); have HM8 := hid (HM7.out.then hm (by intro j hj hl; simp at hj; have := HX7.out; omega)); clear hm ht; have tok5 := hid trivial)
          | (go_at_call 11; clear tok5; refine (awake_calls _).mono ?_; rintro e w9 ⟨rfl, hm⟩; have HU9 := hid (HU8.out.mod hm (by simp) (by simp)); have HG9 := hid (HG8.out.mod0 hm); have HN9 := hid (HN8.out.mod0 hm); have HT9 := hid (HT8.out.mod hm (by simp) (by simp)); have HV9 := hid (HV8.out.mod0 hm); have HM9 := hid (HM8.out.trans hm); clear hm; have tok6 := hid trivial)
          | (go_at_call 12; clear tok6; refine (same_calls p b v own recs A5 c5 next _ HT9.out HV9.out HN9.out (by omega) (fun id _ _ => HL.out id)).mono ?_; rintro e w10 ⟨rfl, hm⟩; have HU10 := hid (HU9.out.mod hm (by simp) (by simp)); have HG10 := hid (HG9.out.mod0 hm); have HN10 := hid (HN9.out.mod0 hm); have HM10 := hid (HM9.out.trans hm); clear hm; have tok7 := hid trivial)
          | (go_at_call 12; clear tok7; refine (same_calls p7 b7 v6 [] next A5 c5 next _ HU10.out HG10.out HN10.out (by omega) (fun id _ _ => rfl)).mono ?_; rintro e w11 ⟨rfl, hm⟩; have HU11 := hid (HU10.out.mod hm (by simp) (by simp)); have HG11 := hid (HG10.out.mod0 hm); have HM11 := hid (HM10.out.trans hm); clear hm; have tok8 := hid trivial)
          | (go_at_call 10; clear tok8; refine (changes_calls p7 b7 v6 [] next _ HU11.out HG11.out (by simp)).mono ?_; rintro e w12 ⟨v12, rfl, ho12, hm⟩; obtain ⟨A12, c12, rfl, _⟩ := ho12.form; have HM12 := hid (HM11.out.trans hm); clear hm ho12; have hz : (changesR [] next).length = 0 := rfl; rw [hz]; clear hz; have tok9 := hid trivial))
        go_ret
        exact ⟨rfl, HM12.out⟩
      · go_wp2_with (first
          | (go_at_call 10; clear tok0; refine (changes_calls p b v own recs _ HTr.out HVr.out (by omega)).mono ?_; rintro e w4 ⟨v4, rfl, ho4, hm⟩; obtain ⟨A4, c4, rfl, _⟩ := ho4.form; have HO4 := hid (chs_of_own ho4); have HT4 := hid (HTr.out.mod hm (by simp) (by simp)); have HV4 := hid (HVr.out.mod0 hm); have HR4 := hid (HRr.out.mod0 hm); have HM4 := hid (HMw.out.trans hm); clear hm ho4; have tok1 := hid trivial)
          | (go_at_call 9; clear tok1; have hd := do_calls A1 A4 c1 c4 recs (changesR own recs) _ HR4.out HO4.out (by omega); rw [HNX.out] at hd; refine hd.mono ?_; clear hd; rintro e w5 ⟨A5, c5, rfl, hb, hm⟩; have HN5 := hid hb; have HT5 := hid (HT4.out.mod hm (by simp) (by simp)); have HV5 := hid (HV4.out.mod0 hm); have HM5 := hid (HM4.out.trans hm); clear hm hb; have tok2 := hid trivial)
          | (go_at_call 7; clear tok2; refine (getter_calls A5 c5 next _ HN5.out (by omega)).mono ?_; rintro e w6 ⟨v6, rfl, hb, hm⟩; have HG6 := hid hb; have HN6 := hid (HN5.out.mod0 hm); have HT6 := hid (HT5.out.mod hm (by simp) (by simp)); have HV6 := hid (HV5.out.mod0 hm); have HM6 := hid (HM5.out.trans hm); clear hm hb; have tok3 := hid trivial)
          | (go_at_call 6; clear tok3; refine (new_calls _ _ HG6.out.shape).mono ?_; rintro e w7 ⟨p7, b7, rfl, ht, hp7, hb7, hm⟩; have HU7 := hid ht; have HB7 := hid hb7; have HG7 := hid (HG6.out.mod0 hm); have HN7 := hid (HN6.out.mod0 hm); have HT7 := hid (HT6.out.mod hm (by simp) (by simp)); have HV7 := hid (HV6.out.mod0 hm); have HM7 := hid (HM6.out.trans hm); clear hp7 hb7; have HX7 := hid (show w.heap.size ≤ b7 by have := HM6.out.size; have := HB7.out; omega); have HX6 := hid (show b7 ≠ b by have := HT6.out.2.lt; have := HB7.out; omega); have HX5 := hid (show p ≠ b7 by have := (Array.getElem?_eq_some_iff.1 HT6.out.1).1; have := HB7.out; omega); clear hm ht; have tok4 := hid trivial)
          | (go_at_call 8; clear tok4; refine (apply_calls p7 b7 v6 [] next none 0 [] _ HU7.out HG7.out (fun j x hx => by simp at hx) (by simp)).mono ?_; rintro e w8 ⟨rfl, ht, hm⟩; have HU8 := hid ht; have HG8 := hid (HG7.out.modM hm HU7.out.2); have HN8 := hid (HN7.out.modM hm HU7.out.2); have HT8 := hid (HT7.out.mod hm (by simpa using HX5.out) (by simpa using HX6.out.symm)); have HV8 := hid (HV7.out.modM hm HU7.out.2); have HM8 := hid (HM7.out.then hm (by intro j hj hl; simp at hj; have := HX7.out; omega)); clear hm ht; have tok5 := hid trivial)
          | (go_at_call 11; clear tok5; refine (awake_calls _).mono ?_; rintro e w9 ⟨rfl, hm⟩; have HU9 := hid (HU8.out.mod hm (by simp) (by simp)); have HG9 := hid (HG8.out.mod0 hm); have HN9 := hid (HN8.out.mod0 hm); have HT9 := hid (HT8.out.mod hm (by simp) (by simp)); have HV9 := hid (HV8.out.mod0 hm); have HM9 := hid (HM8.out.trans hm); clear hm; have tok6 := hid trivial)
          | (go_at_call 12; clear tok6; refine (same_calls p b v own recs A5 c5 next _ HT9.out HV9.out HN9.out (by omega) (fun id _ _ => HL.out id)).mono ?_; rintro e w10 ⟨rfl, hm⟩; have HU10 := hid (HU9.out.mod hm (by simp) (by simp)); have HG10 := hid (HG9.out.mod0 hm); have HN10 := hid (HN9.out.mod0 hm); have HM10 := hid (HM9.out.trans hm); clear hm; have tok7 := hid trivial)
          | (go_at_call 12; clear tok7; refine (same_calls p7 b7 v6 [] next A5 c5 next _ HU10.out HG10.out HN10.out (by omega) (fun id _ _ => rfl)).mono ?_; rintro e w11 ⟨rfl, hm⟩; have HU11 := hid (HU10.out.mod hm (by simp) (by simp)); have HG11 := hid (HG10.out.mod0 hm); have HM11 := hid (HM10.out.trans hm); clear hm; have tok8 := hid trivial)
          | (go_at_call 10; clear tok8; refine (changes_calls p7 b7 v6 [] next _ HU11.out HG11.out (by simp)).mono ?_; rintro e w12 ⟨v12, rfl, ho12, hm⟩; obtain ⟨A12, c12, rfl, _⟩ := ho12.form; have HM12 := hid (HM11.out.trans hm); clear hm ho12; have hz : (changesR [] next).length = 0 := rfl; rw [hz]; clear hz; have tok9 := hid trivial))
        go_ret
        exact ⟨rfl, HM12.out⟩
end Go.Proofs.Ytkohpfigapfcdaa.Tx
