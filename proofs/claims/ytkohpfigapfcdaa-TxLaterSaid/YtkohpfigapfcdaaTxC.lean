/-
  WHAT A TRANSACTION TELLS AS CHANGED.
  Condition: at most twelve records are touched.
-/
import Derived.Test.YtkohpfigapfcdaaTxB
import Derived.Test.YtkohpfigapfcdaaSrtB
import Derived.Test.YtkohpfigapfcdaaOOwn
namespace Go.Proofs.Ytkohpfigapfcdaa.Tx
open Go.RowKit Go.Proofs.Om Go.Proofs.Ytkohpfigapfcdaa.Srt Go.Proofs.Ytkohpfigapfcdaa.Keys

def cellsC (c : Ch) : List Value := [.int .u64 c.id, .string c.s, .bool c.gone]
theorem cellsC_len (c : Ch) : (cellsC c).length = 3 := rfl
/-- is a change one? r: the record as it was -/
def chg (c : Ch) (r : ByteArray × Bool) : Bool := c.gone && r.2 || !c.gone && (!r.2 || !(r.1.toList == c.s.toList))
def changesR (own : List (Int × Ch)) (recs : List Bd) : List Ch := (own.filter fun p => chg p.2 (find p.1 recs)).map (·.2)

theorem infoC : (Try.prog.info? 31).map (fun i => (i.zero, i.size, i.bytes)) = some (some (encC ⟨0, ⟨#[]⟩, false⟩), 3, 32) := by kernel_rfl

theorem changes_nil (w : World) :
    Calls Try.prog 10 #[.pointer none] w fun e w' => e = .returned (.slice none 0 0) ∧ w' = w := by
  go_enter Try.func10, Try.ntmps10
  go_wp2
  go_ret
  exact ⟨rfl, rfl⟩

theorem changes_take {own : List (Int × Ch)} {recs : List Bd} {k : Nat} {p : Int × Ch} (h : own[k]? = some p) :
    changesR (own.take (k + 1)) recs = if chg p.2 (find p.1 recs) then changesR (own.take k) recs ++ [p.2] else changesR (own.take k) recs := by
  obtain ⟨hk, rfl⟩ := List.getElem?_eq_some_iff.1 h
  rw [List.take_succ_eq_append_getElem hk]
  simp only [changesR, List.filter_append, List.map_append]
  split
  · rename_i e; simp [e]
  · rename_i e; simp [e]

theorem cellC_new (X : World) (T : TypeId) (c : Ch) (b : Nat) (hb : b = X.heap.size) : ∀ i u, (cellsC c)[i]? = some u → (X.alloc (.cells #[.int .u64 c.id, .string c.s, .bool c.gone] T)).cell? ⟨b, i, none⟩ = some u := by
  intro i u hu
  subst hb
  rw [World.cell?_alloc_new]
  simpa [cellsC] using hu
theorem cellsC_one (c : Ch) : ∀ u ∈ cellsC c, u.oneCell' = true := by
  intro u hu
  simp [cellsC] at hu
  rcases hu with rfl | rfl | rfl <;> rfl
theorem changesR_len (own : List (Int × Ch)) (recs : List Bd) : (changesR own recs).length ≤ own.length := by
  unfold changesR
  rw [List.length_map]
  exact List.length_filter_le _ _

set_option maxHeartbeats 1000000 in
theorem changes_calls (p b : Nat) (base : Value) (own : List (Int × Ch)) (recs : List Bd) (w : World) (h : TxAt w p base b own) (hb : BaseAt w base recs) (hn : own.length ≤ 12) :
    Calls Try.prog 10 #[.pointer (some ⟨p, 0, none⟩)] w fun e w' => ∃ v, e = .returned v ∧ OwnL w' w.heap.size 31 3 cellsC v (changesR own recs) ∧ Mod [] w w' := by
  have c1 := h.c1
  have H := hid h
  have HB := hid hb
  clear h hb
  go_enter Try.func10, Try.ntmps10
  go_wp2_with (first
    | (go_at_call 20; refine (keys_calls _ _).mono ?_; rintro e w' ⟨rfl, rfl⟩)
    | (go_at_call 19; refine (sorted_small w.heap.size b own hn _ (by simp) (World.cell?_alloc_new _ _ _ _) (H.out.2.keep ((MapKept.heap_alloc _ _).2 _ H.out.2.lt))).mono ?_; rintro e w1 ⟨v, rfl, hv, hm⟩; obtain ⟨A, cap, rfl, ha⟩ := hv.form; rw [List.length_map] at ha ⊢; have HM1 := hid (((Mod.refl [] w).alloc _).trans hm); have HA := hid ha; clear hm hv ha))
  go_loopw [3, 18] (fun vo vi wr => ∃ (k : Nat), k ≤ own.length ∧ vi = .int .i64 k ∧ Hid (OwnL wr w1.heap.size 31 3 cellsC vo (changesR (own.take k) recs)) ∧ Hid (Mod [] w1 wr)) (fun _ vi _ => own.length - (intOf vi).toNat)
  case atStart => exact ⟨0, by omega, rfl, hid (OwnL.nil _ _ _ _ _), hid (Mod.refl _ _)⟩
  case round =>
    obtain ⟨k, hk, rfl, HO, HW⟩ := hrel
    have HT := hid (H.out.mod (HM1.out.trans HW.out) (by simp) (by simp))
    have HBB := hid (HB.out.mod0 (HM1.out.trans HW.out))
    by_cases hlt : k < own.length
    · obtain ⟨g, rfl, hr⟩ := HA.out k hlt
      have hok : own[k]? = some own[k] := List.getElem?_eq_getElem hlt
      have ct := changes_take (recs := recs) hok
      have hgk : get own[k].1 own = some own[k].2 := get_of_mem H.out.2.asc (List.getElem_mem hlt)
      have hc := (hr.mod HW.out (by simp)).cell (k := k) (x := own[k].1) (by simp [hok])
      generalize own[k] = x at *
      obtain ⟨key, c⟩ := x
      obtain ⟨id, s, gone⟩ := c
      dsimp only at ct hgk hc
      have HC := hid ct
      have HG := hid hgk
      have c1 := HT.out.c1
      clear ct hgk hok hr
      obtain ⟨⟨so, is⟩, hf⟩ : ∃ r, find key recs = r := ⟨_, rfl⟩
      have HF := hid hf
      clear hf
      have HTa := fun o : Obj => hid (HT.out.mod ((Mod.refl [] _).alloc o) (by simp) (by simp))
      have HBa := fun o : Obj => hid (HBB.out.mod0 ((Mod.refl [] _).alloc o))
      have HOa := fun o o' : Obj => hid (HO.out.mod0 (((Mod.refl [] _).alloc o).alloc o'))
      have HWa := fun o o' : Obj => hid ((HW.out.alloc o).alloc o')
      have hlen : (changesR (own.take k) recs).length ≤ 12 := Nat.le_trans (changesR_len _ _) (by simp; omega)
      have hlo : w1.heap.size ≤ wr.heap.size := HW.out.size
      cases gone with
      | true =>
        cases is with
        | true =>
          have he : chg ⟨id, s, true⟩ (find key recs) = true := by rw [HF.out]; rfl
          have HE := hid (HC.out.trans (if_pos he))
          clear HC he
          go_wp2_with (first
            | (at_lookup; refine wpList_look_one rfl _ _ _ rfl Try.underlying43 Try.underlying29 HT.out.2 rfl key rfl _ HG.out ?_; unfold encC)
            | (go_at_call 21; refine (was_calls p b base own recs key _ (HTa _).out (HBa _).out).mono ?_; rw [HF.out]; rintro e w' ⟨rfl, rfl⟩)
            | (at_builtin; refine wpList_append_one rfl _ _ _ rfl 31 _ 32 Try.underlying22 infoC rfl (by decide) cellsC_len _ rfl (HOa _ _).out ⟨id, s, true⟩ _ rfl (cellC_new _ _ _ _ (by simp)) (cellsC_one _) (by omega) (by omega) (by simp; omega) ?_; rintro v' w2 ho hg ⟨g', cap', rfl⟩; have HO2 := hid ho; have HG2 := hid ((HWa _ _).out.appended (HOa _ _).out (Nat.le_refl _) hg); clear ho hg))
          go_roundw
          case rel => exact ⟨k + 1, by omega, by go_num, by rw [HE.out]; exact HO2, HG2⟩
          case measure => simp [intOf]; omega
        | false =>
          have he : chg ⟨id, s, true⟩ (find key recs) = false := by rw [HF.out]; rfl
          have HE := hid (HC.out.trans (if_neg (by rw [he]; simp)))
          clear HC he
          go_wp2_with (first
            | (at_lookup; refine wpList_look_one rfl _ _ _ rfl Try.underlying43 Try.underlying29 HT.out.2 rfl key rfl _ HG.out ?_; unfold encC)
            | (go_at_call 21; refine (was_calls p b base own recs key _ (HTa _).out (HBa _).out).mono ?_; rw [HF.out]; rintro e w' ⟨rfl, rfl⟩))
          go_roundw
          case rel => exact ⟨k + 1, by omega, by go_num, by rw [HE.out]; exact hid (HO.out.mod0 ((Mod.refl [] _).alloc _)), hid (HW.out.alloc _)⟩
          case measure => simp [intOf]; omega
      | false =>
        cases is with
        | false =>
          have he : chg ⟨id, s, false⟩ (find key recs) = true := by rw [HF.out]; rfl
          have HE := hid (HC.out.trans (if_pos he))
          clear HC he
          go_wp2_with (first
            | (at_lookup; refine wpList_look_one rfl _ _ _ rfl Try.underlying43 Try.underlying29 HT.out.2 rfl key rfl _ HG.out ?_; unfold encC)
            | (go_at_call 21; refine (was_calls p b base own recs key _ (HTa _).out (HBa _).out).mono ?_; rw [HF.out]; rintro e w' ⟨rfl, rfl⟩)
            | (at_builtin; refine wpList_append_one rfl _ _ _ rfl 31 _ 32 Try.underlying22 infoC rfl (by decide) cellsC_len _ rfl (HOa _ _).out ⟨id, s, false⟩ _ rfl (cellC_new _ _ _ _ (by simp)) (cellsC_one _) (by omega) (by omega) (by simp; omega) ?_; rintro v' w2 ho hg ⟨g', cap', rfl⟩; have HO2 := hid ho; have HG2 := hid ((HWa _ _).out.appended (HOa _ _).out (Nat.le_refl _) hg); clear ho hg))
          go_roundw
          case rel => exact ⟨k + 1, by omega, by go_num, by rw [HE.out]; exact HO2, HG2⟩
          case measure => simp [intOf]; omega
        | true =>
          by_cases hss : so = s
          · have hq := str_yes hss
            clear hss
            have he : chg ⟨id, s, false⟩ (find key recs) = false := by rw [HF.out]; simp [chg, hq]
            have HE := hid (HC.out.trans (if_neg (by rw [he]; simp)))
            clear HC he
            go_wp2_with (first
              | (at_lookup; refine wpList_look_one rfl _ _ _ rfl Try.underlying43 Try.underlying29 HT.out.2 rfl key rfl _ HG.out ?_; unfold encC)
              | (go_at_call 21; refine (was_calls p b base own recs key _ (HTa _).out (HBa _).out).mono ?_; rw [HF.out]; rintro e w' ⟨rfl, rfl⟩))
            go_roundw
            case rel => exact ⟨k + 1, by omega, by go_num, by rw [HE.out]; exact hid (HO.out.mod0 ((Mod.refl [] _).alloc _)), hid (HW.out.alloc _)⟩
            case measure => simp [intOf]; omega
          · have hq := str_no hss
            clear hss
            have he : chg ⟨id, s, false⟩ (find key recs) = true := by rw [HF.out]; simp [chg, hq]
            have HE := hid (HC.out.trans (if_pos he))
            clear HC he
            go_wp2_with (first
              | (at_lookup; refine wpList_look_one rfl _ _ _ rfl Try.underlying43 Try.underlying29 HT.out.2 rfl key rfl _ HG.out ?_; unfold encC)
              | (go_at_call 21; refine (was_calls p b base own recs key _ (HTa _).out (HBa _).out).mono ?_; rw [HF.out]; rintro e w' ⟨rfl, rfl⟩)
              | (at_builtin; refine wpList_append_one rfl _ _ _ rfl 31 _ 32 Try.underlying22 infoC rfl (by decide) cellsC_len _ rfl (HOa _ _).out ⟨id, s, false⟩ _ rfl (cellC_new _ _ _ _ (by simp)) (cellsC_one _) (by omega) (by omega) (by simp; omega) ?_; rintro v' w2 ho hg ⟨g', cap', rfl⟩; have HO2 := hid ho; have HG2 := hid ((HWa _ _).out.appended (HOa _ _).out (Nat.le_refl _) hg); clear ho hg))
            go_roundw
            case rel => exact ⟨k + 1, by omega, by go_num, by rw [HE.out]; exact HO2, HG2⟩
            case measure => simp [intOf]; omega
    · have hkl : k = own.length := by omega
      subst hkl
      rw [List.take_length] at HO
      go_wp2
      go_ret
      exact ⟨_, rfl, HO.out.lower HM1.out.size, HM1.out.trans HW.out⟩
end Go.Proofs.Ytkohpfigapfcdaa.Tx
