/-
  DROP, APPLY AND COPY OF A TRANSACTION.
  No condition.
-/
import Derived.Test.YtkohpfigapfcdaaTxA
namespace Go.Proofs.Ytkohpfigapfcdaa.Tx
open Go.RowKit Go.Proofs.Om

/-- what Drop leaves -/
def dropR (id : Int) (own : List (Int × Ch)) (recs : List Bd) : List (Int × Ch) := if (getR id own recs).2 = true then put id ⟨id, ⟨#[]⟩, true⟩ own else own

theorem drop_nil (id : Int) (w : World) :
    Calls Try.prog 15 #[.pointer none, .int .u64 id] w fun e w' => e = .returned (.bool false) ∧ w' = w := by
  go_enter Try.func15, Try.ntmps15
  go_wp2_with (first | (go_at_call 14; refine (get_nil _ _).mono ?_; rintro e w' ⟨rfl, rfl⟩))
  go_ret
  exact ⟨rfl, rfl⟩

theorem drop_calls (p b : Nat) (base : Value) (own : List (Int × Ch)) (recs : List Bd) (id : Int) (w : World) (h : TxAt w p base b own) (hb : BaseAt w base recs) :
    Calls Try.prog 15 #[.pointer (some ⟨p, 0, none⟩), .int .u64 id] w fun e w' => e = .returned (.bool (getR id own recs).2) ∧ TxAt w' p base b (dropR id own recs) ∧ Mod [b] w w' := by
  have HC := hid (get_calls p b base own recs id w h hb)
  have H := hid h
  clear h hb
  obtain ⟨⟨s, is⟩, hg⟩ : ∃ r, getR id own recs = r := ⟨_, rfl⟩
  cases is with
  | false =>
    have hr : dropR id own recs = own := by simp [dropR, hg]
    have HR := hid hr
    have HG := hid hg
    clear hr hg
    rw [HG.out] at HC
    go_enter Try.func15, Try.ntmps15
    go_wp2_with (first | (go_at_call 14; refine HC.out.mono ?_; rintro e w1 ⟨rfl, hm⟩; have HM := hid hm; clear hm))
    go_ret
    exact ⟨by rw [HG.out]; rfl, by rw [HR.out]; exact H.out.mod HM.out (by simp) (by simp), HM.out.mono (by simp)⟩
  | true =>
    have hr : dropR id own recs = put id ⟨id, ⟨#[]⟩, true⟩ own := by simp [dropR, hg]
    have HR := hid hr
    have HG := hid hg
    clear hr hg
    rw [HG.out] at HC
    go_enter Try.func15, Try.ntmps15
    go_wp2_with (first
      | (go_at_call 14; refine HC.out.mono ?_; rintro e w1 ⟨rfl, hm⟩; have c1 := (H.out.mod hm (by simp) (by simp)).c1; have HM := hid hm; clear hm)
      | (at_mapUpdate; refine wpList_store_at rfl _ _ _ _ rfl Try.underlying43 Try.underlying29 (H.out.mod HM.out (by simp) (by simp)).2 rfl id rfl ⟨id, ⟨#[]⟩, true⟩ rfl ?_; intro w2 hM hB))
    go_ret
    exact ⟨by rw [HG.out]; rfl, by rw [HR.out]; exact (H.out.mod HM.out (by simp) (by simp)).upd hB hM, (HM.out.mono (by simp)).trans hB.mod⟩

theorem copy_nil (w : World) :
    Calls Try.prog 16 #[.pointer none] w fun e w' => e = .returned (.pointer none) ∧ w' = w := by
  go_enter Try.func16, Try.ntmps16
  go_wp2
  go_ret
  exact ⟨rfl, rfl⟩

/-- a slice of changes in memory -/
def ChsAt (w : World) (A : Option Addr) (l : List Ch) : Prop :=
  ∀ j x, l[j]? = some x → ∃ b o, A = some ⟨b, o, none⟩ ∧ w.cell? ⟨b, o + j * 3, none⟩ = some (.int .u64 x.id) ∧ w.cell? ⟨b, o + j * 3 + 1, none⟩ = some (.string x.s) ∧ w.cell? ⟨b, o + j * 3 + 2, none⟩ = some (.bool x.gone)
theorem ChsAt.mod0 {w w' : World} {A : Option Addr} {l : List Ch} (h : ChsAt w A l) (k : Mod [] w w') : ChsAt w' A l := fun j x hx => by
  obtain ⟨b, o, h1, h2, h3, h4⟩ := h j x hx
  exact ⟨b, o, h1, k.cell0 h2, k.cell0 h3, k.cell0 h4⟩
theorem ChsAt.modM {V : Type} {w w' : World} {b : Nat} {q : IntKind} {enc : V → Value} {m : List (Int × V)} {A : Option Addr} {l : List Ch} (h : ChsAt w A l) (k : Mod [b] w w') (hM : MapAt w b q enc m) : ChsAt w' A l := fun j x hx => by
  obtain ⟨b, o, h1, h2, h3, h4⟩ := h j x hx
  exact ⟨b, o, h1, k.cellM hM h2, k.cellM hM h3, k.cellM hM h4⟩

/-- what a change leaves -/
def doR (recs : List Bd) (own : List (Int × Ch)) (c : Ch) : List (Int × Ch) := if c.gone then dropR c.id own recs else put c.id ⟨c.id, c.s, false⟩ own

set_option maxHeartbeats 400000 in
theorem apply_calls (p b : Nat) (base : Value) (own : List (Int × Ch)) (recs : List Bd) (A : Option Addr) (cap : Nat) (l : List Ch) (w : World) (h : TxAt w p base b own) (hb : BaseAt w base recs) (hl : ChsAt w A l) (hn : l.length < 4611686018427387904) :
    Calls Try.prog 8 #[.pointer (some ⟨p, 0, none⟩), .slice A l.length cap] w fun e w' => e = .returned (.tuple #[]) ∧ TxAt w' p base b (l.foldl (doR recs) own) ∧ Mod [b] w w' := by
  have H := hid h
  have HB := hid hb
  have HL := hid hl
  clear h hb hl
  go_enter Try.func8, Try.ntmps8
  go_wp2
  go_loopw [8] (fun i wr => ∃ (k : Nat), k ≤ l.length ∧ i = .int .i64 k ∧ Hid (TxAt wr p base b ((l.take k).foldl (doR recs) own)) ∧ Hid (Mod [b] w wr)) (fun i _ => l.length - (intOf i).toNat)
  case atStart => exact ⟨0, Nat.zero_le _, rfl, H, hid (Mod.refl _ _)⟩
  case round =>
    obtain ⟨k, hk, rfl, HT, HM⟩ := hrel
    by_cases hlt : k < l.length
    · have hlk : l[k]? = some l[k] := List.getElem?_eq_getElem hlt
      obtain ⟨B, o, rfl, h0, h1, h2⟩ := (HL.out.modM HM.out H.out.2) k l[k] hlk
      have hts : (l.take (k + 1)).foldl (doR recs) own = doR recs ((l.take k).foldl (doR recs) own) l[k] := by
        rw [List.take_succ_eq_append_getElem hlt, List.foldl_append]; rfl
      have HS := hid hts
      clear hts
      generalize l[k] = x at *
      obtain ⟨id, s, gone⟩ := x
      dsimp only at h0 h1 h2
      clear hlk
      have HT1 : ∀ o : Obj, Hid (TxAt (wr.alloc o) p base b ((l.take k).foldl (doR recs) own)) := fun o => hid (HT.out.mod ((Mod.refl [] _).alloc _) (by simp) (by simp))
      have HB1 : ∀ o : Obj, Hid (BaseAt (wr.alloc o) base recs) := fun o => hid ((HB.out.modM HM.out H.out.2).mod0 ((Mod.refl [] _).alloc _))
      have HM1 : ∀ o : Obj, Hid (Mod [b] w (wr.alloc o)) := fun o => hid (HM.out.alloc _)
      cases gone with
      | true =>
        go_wp2_with (first | (go_at_call 15; refine (drop_calls p b base _ recs id _ (HT1 _).out (HB1 _).out).mono ?_; rintro e w1 ⟨rfl, ht, hm⟩; have HT2 := hid ht; have HM2 := hid ((HM1 _).out.trans hm); clear ht hm))
        go_roundw
        case rel => exact ⟨k + 1, by omega, by go_num, by rw [HS.out]; exact HT2, HM2⟩
        case measure => simp [intOf]; omega
      | false =>
        go_wp2_with (first | (go_at_call 13; refine (put_calls p b base _ id s _ (HT1 _).out).mono ?_; rintro e w1 ⟨rfl, ht, hm⟩; have HT2 := hid ht; have HM2 := hid ((HM1 _).out.trans hm.mod); clear ht hm))
        go_roundw
        case rel => exact ⟨k + 1, by omega, by go_num, by rw [HS.out]; exact HT2, HM2⟩
        case measure => simp [intOf]; omega
    · have hkl : k = l.length := by omega
      subst hkl
      rw [List.take_length] at HT
      go_wp2
      go_end0
      exact ⟨rfl, HT.out, HM.out⟩
end Go.Proofs.Ytkohpfigapfcdaa.Tx
