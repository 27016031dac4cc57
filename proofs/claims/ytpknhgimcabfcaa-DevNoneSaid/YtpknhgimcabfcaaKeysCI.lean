/-
  slices.Collect(maps.Keys(m)): the keys of a map, each once, in some order, in a new slice.
  No condition.
-/
import Derived.Test.YtpknhgimcabfcaaOIter
import Derived.Test.YtpknhgimcabfcaaSrtAI
import Derived.RangeFuncNested
import Derived.RangeFuncBound
import Derived.RangeFuncCalls
import Derived.RangeFuncLeaves
import Derived.Shelf.Abstract
import Derived.Shelf.RegionOpen
import Derived.OwnWalkIn
import Derived.TacticsInMore
import Derived.LoopNIn
import Derived.LoopIn
import Derived.Maps.AppendAt
namespace Go.Proofs.Ytpknhgimcabfcaa.Keys
open Go.RowKit Go.Proofs.Om Go.Proofs.Ytpknhgimcabfcaa.Srt Go.Shelf
attribute [local go_sem] Oper.semAt_some

def encs (x : Int) : Array Value := #[.int .i64 x]

set_option maxRecDepth 100000 in
set_option maxHeartbeats 1000000 in
theorem iter_in {V : Type} {enc : V → Value} (n : Nat) (hn : 1 ≤ n) (l Bm b : Nat) (m : List (Int × V)) (J Jx : List Int → World → Prop)
    (W : World) (hJ : AbidesFrom W.heap.size J)
    (hY : ∀ pre x W1, J pre W1 → pre.length < m.length → YieldAt Fence.wide (n - 1) Try.prog l (encs x) W1 fun e W' => (e = .returned (.bool true) ∧ J (pre ++ [x]) W' ∧ KeepsWalks W1 W') ∨ (e = .returned (.bool false) ∧ Jx (pre ++ [x]) W'))
    (hm : W.cell? ⟨Bm, 0, none⟩ = some (.map (some b))) (hM : MapAt W b .i64 enc m) (h0 : J [] W) :
    CallsIn Fence.wide n Try.prog 44 #[.func (.yield l) #[] #[], .pointer (some ⟨Bm, 0, none⟩)] W fun e W' => (∃ v, e = .returned v) ∧ ((∃ xs : List Int, xs.Perm (m.map (·.1)) ∧ J xs W') ∨ (∃ pre, Jx pre W')) := by
  have HJ := hid hJ
  have HY := hid hY
  have HM := hid hM
  have H0 := hid h0
  clear hJ hY hM h0
  refine callsIn_of_wp Try.func44 rfl trivial ?_ rfl
  simp only [Try.ntmps44, List.size_toArray, List.length_cons, List.length_nil, Nat.reduceAdd, Nat.reduceSub, Array.replicate_succ, Array.replicate_zero, List.push_toArray, List.append_toArray, List.nil_append, List.cons_append]
  gi_wp2_with (first
    | (gi_at_range; refine wpListIn_range_at rfl _ _ rfl Try.underlying56 HM.out rfl ?_; intro o' hi0)
    | gi_in)
  go_frame
  have HI0 := hid hi0
  clear hi0
  gi_loopg [3] m.length (fun k _ wr => ∃ (todo pre : List Int), Hid (IterAt wr W.heap.size b .i64 enc m todo ∧ (pre ++ todo).Perm (m.map (·.1)) ∧ J pre wr) ∧ todo.length = k)
  case atStart =>
    exact ⟨_, [], hid ⟨HI0.out, List.Perm.refl _, HJ.out [] W _ none H0.out (World.grownBy_alloc W _ none) (fun r e => by cases e)⟩, by simp⟩
  case round =>
    obtain ⟨todo, pre, HR, hk⟩ := hrel
    have HK := hid hk
    clear hk
    gi_wp2_with (first
      | (gi_at_next; refine wpListIn_next_at rfl _ rfl rfl HR.out.1 ?_ ?_)
      | gi_in)
    · intro ht
      gi_wp2
      go_end0
      have h := HR.out
      rw [ht, List.append_nil] at h
      exact ⟨⟨_, rfl⟩, .inl ⟨pre, h.2.1, h.2.2⟩⟩
    · intro x v w2 hx hv hi hg hs hen
      have hJ2 : J pre w2 := HJ.out pre wr w2 (some W.heap.size) HR.out.2.2 hg (fun r e => by cases e; exact ⟨Nat.le_refl _, HR.out.1.iter⟩)
      have hpl : pre.length < m.length := by
        have := HR.out.2.1.length_eq
        have h2 : 0 < todo.length := List.length_pos_of_mem hx
        simp at this
        omega
      obtain ⟨fn, tmps, assign, body, hy, hR⟩ := HY.out pre x w2 hJ2 hpl
      unfold encs at hy
      have HX := hid hx
      have HI := hid hi
      have HRR := hid hR
      clear hx hv hi hg hs hJ2 hpl hR
      gi_wp2
      refine HRR.out.mono ?_
      rintro e W3 (⟨rfl, hJ3, hk3⟩ | ⟨rfl, hx3⟩)
      · have HJ3 := hid hJ3
        have HI3 := hid (HI.out.walks hk3)
        clear hJ3 hk3
        gi_wp2
        gi_roundg (todo.erase x).length
        case rel =>
          refine ⟨_, pre ++ [x], hid ⟨HI3.out, ?_, HJ3.out⟩, rfl⟩
          have hp := List.perm_cons_erase HX.out
          have h := HR.out.2.1
          rw [List.append_assoc]
          exact ((List.Perm.append_left pre hp.symm).trans h)
        case measure =>
          rw [List.length_erase_of_mem HX.out]
          have := List.length_pos_of_mem HX.out
          have := HK.out
          omega
      · have HX3 := hid hx3
        clear hx3
        gi_wp2
        refine bodyPost_ret (results_none rfl _ _ _) rfl ?_
        exact ⟨⟨_, rfl⟩, .inr ⟨_, HX3.out⟩⟩

theorem infoE : (Try.prog.info? 3).map (fun i => (i.zero, i.size, i.bytes)) = some (some (.int .i64 0), 1, 8) := by kernel_rfl

/-- what the loop that collects keeps -/
def Coll (n₀ Bx : Nat) (xs : List Int) (W : World) : Prop :=
  ∃ v, Boxed W Bx 68 v ∧ W.ownsRow n₀ 3 1 v xs.length (xs.map (Value.int .i64)) ∧ (v = .slice none 0 0 ↔ xs = [])

set_option maxRecDepth 100000 in
set_option maxHeartbeats 2000000 in
theorem appendSeq_in {V : Type} {enc : V → Value} (n : Nat) (hn : 3 ≤ n) (Bm b : Nat) (m : List (Int × V)) (hN : m.length ≤ 1099511627776) (w : World)
    (hBm : Bm < w.heap.size) (hm : w.cell? ⟨Bm, 0, none⟩ = some (.map (some b))) (hM : MapAt w b .i64 enc m) :
    CallsIn Fence.wide n Try.prog 54 #[.slice none 0 0, .func (.func 44) #[] #[.pointer (some ⟨Bm, 0, none⟩)]] w fun e W' =>
      ∃ (v : Value) (xs : List Int), e = .returned v ∧ xs.Perm (m.map (·.1)) ∧ W'.ownsRow w.heap.size 3 1 v xs.length (xs.map (Value.int .i64)) ∧ (v = .slice none 0 0 ↔ xs = []) ∧ Below w.heap.size w W' := by
  have h1 : 1 ≤ n := by omega
  obtain ⟨i0, hi, hz0, hz1, hz2⟩ := info_parts infoE
  refine callsIn_of_wp_marks Try.func54 rfl trivial ?_ rfl
  simp only [Try.ntmps54, List.size_toArray, List.length_cons, List.length_nil, Nat.reduceAdd, Nat.reduceSub, Array.replicate_succ, Array.replicate_zero, List.push_toArray, List.append_toArray, List.nil_append, List.cons_append]
  have HM := hid hM
  clear hM
  gi_wp2
  have hv0 := Boxed.new w 68 (.slice none 0 0)
  have hB0 : Below w.heap.size w (w.alloc (.cells #[.slice none 0 0] 68)) := (Below.refl _ w).alloc (Nat.le_refl _) _
  refine wpIn_rangeFunc_ownF (F := Fence.wide) (n := n) (P := Try.prog) (Kp := KeepsWalks) (encs := encs) (N := m.length) (S := fun xs => xs.Perm (m.map (·.1))) (Sp := fun _ => True) (w0 := w.alloc (.cells #[.slice none 0 0] 68)) rfl h1 (gf := 44) (lb := #[.pointer (some ⟨Bm, 0, none⟩)]) rfl trivial (enters_of Try.func44 (by kernel_rfl) rfl)
    ?seq walksK_t walksK_b (Below.refl _ _) (fun _ => rfl)
    (fun pre W => Coll w.heap.size w.heap.size pre W ∧ Below w.heap.size w W) (fun _ _ _ => False)
    (OwnFrom.and (Own.from (holdsRow_own w.heap.size w.heap.size 68 3 1 (fun pre : List Int => pre.length) (fun pre => pre.map (Value.int .i64)) (fun pre v => v = .slice none 0 0 ↔ pre = [])) _) (ownFrom_below (Nat.le_refl _) (by simp)))
    (fun _ _ _ _ _ hs _ _ => hs) ⟨⟨_, hv0, World.ownsRow_nil _ _ _ _, by simp⟩, hB0⟩
    (fun x => { tmps := #[.slice none 0 0, .func (.func 44) #[] #[.pointer (some ⟨Bm, 0, none⟩)], .pointer (some ⟨w.heap.size, 0, none⟩), undef, .slice none 0 0, .int .i64 x, .func (.func 44) #[] #[.pointer (some ⟨Bm, 0, none⟩)], .int .i64 x, undef, undef, undef, undef, undef], defers := [] }) ?assign ?body ?done ?stop
  case seq =>
    intro l J Jx W hW hJ hJx hY h0
    have hM' : MapAt W b .i64 enc m := HM.out.keep ((hW.block b (by have := HM.out.lt; simp; omega)).trans (Below.heap_alloc _ _ _ HM.out.lt))
    have hc : W.cell? ⟨Bm, 0, none⟩ = some (.map (some b)) := (hW.cell (p := ⟨Bm, 0, none⟩) (by simp; omega)).trans ((World.cell?_alloc_lt _ _ _ hBm).trans hm)
    refine (iter_in (n - 1) (by omega) l Bm b m J Jx W hJ hY hc hM' h0).mono ?_
    rintro e W' ⟨h, h2⟩
    exact ⟨h, h2.imp id (fun ⟨p, h⟩ => ⟨p, trivial, h⟩)⟩
  case assign =>
    intro l x W K hK
    unfold encs
    gi_wp2
    exact hK
  case body =>
    rintro l pre x W ⟨⟨v, hv, hrow, hnil⟩, hB⟩ hlen
    have hc := hv.cell
    gi_wp2_with (first
      | (gi_at_builtin; refine wpListIn_append_own _ rfl _ _ 68 rfl w.heap.size 3 i0 (.int .i64 0) 1 8 Try.underlying68 hi hz0 hz1 hz2 rfl (by decide) _ _ _ rfl (hrow.alloc _) ⟨W.heap.size, 0, none⟩ 1 1 [.int .i64 x] rfl rfl (cell_one_new _ _ _) (by simp [Value.oneCell']) (by unfold maxLen; omega) (by omega) (by have := hB.size; simp; omega) ?_; intro v' w1 hown' hgrow _; obtain ⟨g', cap', rfl⟩ := ownsRow_succ hown'; obtain ⟨hv1, hv2, hr2, hk2, hb2⟩ := hv.appended (by decide) hrow hB.size (Nat.le_refl _) hown' hgrow; have hc1 := hv1.cell; have hf1 := hv1.frozen)
      | gi_in)
    exact ⟨hk2, hk2.walks, ⟨_, hv2, by simpa using hr2, by simp⟩, hB.trans hb2⟩
  case done =>
    rintro D xs W hD hp ⟨⟨v, hv, hrow, hnil⟩, hB⟩ hK
    have hc := hv.cell
    gi_wp2
    refine ⟨by simp, .inl ⟨_, _, rfl, run_takeDeferred hK, ?_⟩⟩
    exact ⟨_, results_tmp rfl _ _ _, v, xs, rfl, hp, ownsRow_putObj hrow _ hK rfl, hnil, hB.trans (belowK_b (w := w) (Nat.le_refl _) W D _ _ (by simp at hD; omega) hK rfl rfl)⟩
  case stop =>
    rintro D c pre W _ _ h _
    exact h.elim

theorem keys_calls (mb : Option Nat) (w : World) :
    Calls Try.prog 29 #[.map mb] w fun e w' => e = .returned (.func (.func 44) #[] #[.pointer (some ⟨w.heap.size, 0, none⟩)]) ∧ w' = w.alloc (.cells #[.map mb] 56) := by
  go_enter Try.func29, Try.ntmps29
  go_wp2
  go_ret
  exact ⟨rfl, rfl⟩

/-- a slice value that reads as whole numbers: nil, or the head of a row -/
def IntsV (w : World) (lo : Nat) (v : Value) (t : TypeId) (q : IntKind) (xs : List Int) : Prop :=
  (v = .slice none 0 0 ∧ xs = []) ∨ ∃ g cap, v = .slice (some ⟨g, 0, none⟩) xs.length cap ∧ lo ≤ g ∧ xs ≠ [] ∧ RowI w g t q xs

theorem IntsV.form {w : World} {lo : Nat} {v : Value} {t : TypeId} {q : IntKind} {xs : List Int} (h : IntsV w lo v t q xs) :
    ∃ A cap, v = .slice A xs.length cap ∧ ∀ j, j < xs.length → ∃ g, A = some ⟨g, 0, none⟩ ∧ RowI w g t q xs := by
  rcases h with ⟨rfl, rfl⟩ | ⟨g, cap, rfl, _, _, hr⟩
  · exact ⟨none, 0, rfl, fun j hj => by simp at hj⟩
  · exact ⟨_, cap, rfl, fun j _ => ⟨g, rfl, hr⟩⟩

theorem intsV_of_own {w : World} {lo : Nat} {t : TypeId} {q : IntKind} {v : Value} {xs : List Int} (h : w.ownsRow lo t 1 v xs.length (xs.map (Value.int q))) (hn : v = .slice none 0 0 ↔ xs = []) : IntsV w lo v t q xs := by
  by_cases hx : xs = []
  · exact .inl ⟨hn.2 hx, hx⟩
  · rcases h.2 with ⟨e, _⟩ | ⟨g, cap, cur, rfl, h1, h2, h3, h4, h5, h6⟩
    · exact absurd (hn.1 e) hx
    · refine .inr ⟨g, cap, rfl, h1, hx, cur, h2, by omega, fun k x hk => ?_⟩
      have hkl : k < xs.length := (List.getElem?_eq_some_iff.1 hk).1
      have e : (cur.toList.take (xs.length * 1))[k]? = some (.int q x) := by rw [h6, List.getElem?_map, hk]; rfl
      rw [List.getElem?_take, if_pos (by omega)] at e
      simpa using e

theorem collect_calls {V : Type} {enc : V → Value} (Bm b : Nat) (m : List (Int × V)) (hN : m.length ≤ 1099511627776) (w : World)
    (hBm : Bm < w.heap.size) (hm : w.cell? ⟨Bm, 0, none⟩ = some (.map (some b))) (hM : MapAt w b .i64 enc m) :
    Calls Try.prog 42 #[.func (.func 44) #[] #[.pointer (some ⟨Bm, 0, none⟩)]] w fun e W' =>
      ∃ (v : Value) (xs : List Int), e = .returned v ∧ xs.Perm (m.map (·.1)) ∧ IntsV W' w.heap.size v 3 .i64 xs ∧ Mod [] w W' := by
  have HA := hid ((callsIn_wide (n := 3)).1 (appendSeq_in 3 (by omega) Bm b m hN w hBm hm hM))
  clear hM hm
  go_enter Try.func42, Try.ntmps42
  go_wp2_with (first | (go_at_call 54; refine HA.out.mono ?_; rintro e w' ⟨v, xs, rfl, hp, hrow, hnil, hb⟩))
  go_ret
  exact ⟨v, xs, rfl, hp, intsV_of_own hrow hnil, Mod.of_below hb⟩
end Go.Proofs.Ytpknhgimcabfcaa.Keys
