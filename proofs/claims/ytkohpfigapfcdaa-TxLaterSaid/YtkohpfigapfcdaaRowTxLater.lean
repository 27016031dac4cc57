/-
  TxLater: THE ROW.
-/
import Derived.Test.YtkohpfigapfcdaaTxG
import Derived.Test.YtkohpfigapfcdaaOOpen
import Derived.Test.YtkohpfigapfcdaaRows
import Derived.ProofKit
import Derived.SizedLaws
import Derived.OpenShut
namespace Go.Proofs.Ytkohpfigapfcdaa.RowTxLater
open Go.ChangeShapes Go.WideShapes Go.ChangeAt Go.RowKit Go.Proofs.Om
open Go.Proofs.Ytkohpfigapfcdaa.Tx (Ch cellsC ChsAt)

theorem own : ownKnob Try.prog.godebug = none := by kernel_rfl
theorem laidOut : laidOutB Try.prog = true := by kernel_rfl
theorem cellsOfC : Try.prog.cellsOf 31 = 3 := by kernel_rfl
theorem bytesC : Try.prog.bytesOf 31 = 32 := by kernel_rfl
theorem fieldsC : ∃ f0 f1 f2 : Field, Try.prog.underlying 31 = some (.struct #[f0, f1, f2]) ∧ (f0.type = 29 ∧ f0.offset = 0) ∧ (f1.type = 9 ∧ f1.offset = 1) ∧ (f2.type = 4 ∧ f2.offset = 2) ∧ Try.prog.cellsOf 29 = 1 ∧ Try.prog.cellsOf 9 = 1 ∧ Try.prog.cellsOf 4 = 1 :=
  ⟨_, _, _, Try.underlying31, ⟨rfl, rfl⟩, ⟨rfl, rfl⟩, ⟨rfl, rfl⟩, by kernel_rfl, by kernel_rfl, by kernel_rfl⟩

theorem dec {H : Type} {enc : TypeId × Value → H} {w : World} {base : Nat} {spare : Nat → Bool} {held : Bool} (n : Nat) (cs : List Value) (y : DataW H × List MemPlace) (hl : cs.length = Try.prog.cellsOf 31)
    (h : DataW.trod enc Try.prog w base spare held n 31 cs = some y) : ∃ x : Ch, cs = cellsC x := by
  obtain ⟨f0, f1, f2, hu, ⟨t0, o0⟩, ⟨t1, o1⟩, ⟨t2, o2⟩, c0, c1, c2⟩ := fieldsC
  rw [cellsOfC] at hl
  obtain ⟨a, b, c, rfl⟩ : ∃ a b c, cs = [a, b, c] := by
    match cs, hl with
    | [a, b, c], _ => exact ⟨a, b, c, rfl⟩
  obtain ⟨ys, n', _, _, _, hyl, hf⟩ := DataW.trod_struct hu h
  have g0 := hf 0 f0 rfl
  have g1 := hf 1 f1 rfl
  have g2 := hf 2 f2 rfl
  rw [t0, o0, c0] at g0
  rw [t1, o1, c1] at g1
  rw [t2, o2, c2] at g2
  have hs : ys.length = 3 := hyl
  rw [List.getElem?_eq_getElem (by omega)] at g0 g1 g2
  obtain ⟨i, hi, _⟩ := DataW.trod_int Try.underlying29 g0
  obtain ⟨s, hs', _⟩ := DataW.trod_string Try.underlying9 g1
  obtain ⟨g, hg, _⟩ := DataW.trod_bool Try.underlying4 g2
  simp at hi hs' hg
  subst hi; subst hs'; subst hg
  exact ⟨⟨i, s, g⟩, rfl⟩

theorem open_chs {H : Type} {enc : TypeId × Value → H} {w : World} {base : Nat} {held : Bool} {fuel : Nat} {A : Option Addr} {len cap : Nat} {z : DataW H × List MemPlace}
    (h : DataW.trod enc Try.prog w base (fun _ => true) held fuel 22 [.slice A len cap] = some z) :
    ∃ l : List Ch, l.length = len ∧ (len = 0 ∨ ∃ elems sp, z.1 = .slice elems sp ∧ elems.length = len) ∧ ChsAt w A l := by
  obtain ⟨l, h1, h2, h3⟩ := open_cells (f := cellsC) Try.underlying22 dec (by rw [cellsOfC]; decide) (fun _ => rfl) h
  refine ⟨l, h1, h2, fun j x hx => ?_⟩
  rw [cellsOfC] at h3
  obtain ⟨b, o, rfl, e0⟩ := h3 j x 0 (.int .u64 x.id) hx rfl
  obtain ⟨b', o', he, e1⟩ := h3 j x 1 (.string x.s) hx rfl
  obtain ⟨b'', o'', he', e2⟩ := h3 j x 2 (.bool x.gone) hx rfl
  cases he; cases he'
  exact ⟨b, o, rfl, e0, e1, e2⟩

set_option maxRecDepth 100000 in
theorem lifted (os : Os) (started : os.Started) (H : Type) (enc : TypeId × Value → H) :
    ReturnsInHanded {} Try.checked os 3 .any (Rows.txLaterSpec.pre6 enc Try.prog Try.f3 Rows.txLaterRow.domain false) (Rows.txLaterSpec.post enc Try.prog Try.f3 false true false false) := by
  refine returnsInHanded_of_change_sized (C := Try.checked) own started (by kernel_rfl) Try.func3
    (ChangeSpec.witness6 (enc := enc) (C := Try.checked) false ⟨#[], #[.slice none 0 0, .slice none 0 0], []⟩ 8 (by kernel_rfl) (by kernel_rfl) (by kernel_rfl) (by kernel_rfl)) ?_
  intro W base args ds gs before hval0 hW _ hsz0 _
  have hsz : (DataW.weightsEach Try.prog (Try.f3.params.toList ++ Rows.txLaterSpec.plain.varTypes Try.prog) (ds ++ gs)).all (· ≤ reachBytes) = true := hsz0
  have hval : ∀ (j : Nat) t v, Try.f3.params[j]? = some t → args[j]? = some v → Value.okWide Try.prog W .any base t v := hval0
  have hW' := hW
  obtain ⟨p, q, hA0, hV, rfl, _, _⟩ := hW
  have hA : DataW.TrodAll enc Try.prog W 0 (fun _ => true) true Try.f3.params.toList args.toList ds p := hA0
  rw [Try.params3] at hA hval hsz
  obtain ⟨v0, v1, d0, d1, p0, p1, rfl, rfl, rfl, h0, h1⟩ := trodAll_two hA
  obtain ⟨rfl, rfl⟩ := trodVars_none hV
  obtain ⟨a0, len0, cap0, rfl⟩ := okWide_slice Try.underlying22 (hval 0 22 v0 rfl rfl)
  obtain ⟨a1, len1, cap1, rfl⟩ := okWide_slice Try.underlying22 (hval 1 22 v1 rfl rfl)
  clear hA0 hval0 hsz0
  simp only [List.append_nil] at hW'
  have hlt0 : ∀ x ∈ p0, x.block < W.heap.size := fun x hx => by simpa using hW'.lt x (List.mem_append.2 (.inl hx))
  have hlt1 : ∀ x ∈ p1, x.block < W.heap.size := fun x hx => by simpa using hW'.lt x (List.mem_append.2 (.inr hx))
  obtain ⟨fu0, hf0⟩ := id h0
  obtain ⟨fu1, hf1⟩ := id h1
  obtain ⟨l0, rfl, hz0, hc0⟩ := open_chs hf0
  obtain ⟨l1, rfl, hz1, hc1⟩ := open_chs hf1
  have hb0 : l0.length < 4611686018427387904 := by
    rcases hz0 with h | ⟨el, sp, rfl, he⟩
    · omega
    · have := sized_slice hsz (j := 0) (t := 22) (e := 31) rfl rfl Try.underlying22
      rw [bytesC, he] at this
      simp only [reachBytes] at this
      omega
  have hb1 : l1.length < 4611686018427387904 := by
    rcases hz1 with h | ⟨el, sp, rfl, he⟩
    · omega
    · have := sized_slice hsz (j := 1) (t := 22) (e := 31) rfl rfl Try.underlying22
      rw [bytesC, he] at this
      simp only [reachBytes] at this
      omega
  refine (Tx.later_calls a0 a1 cap0 cap1 l0 l1 W hc0 hc1 hb0 hb1).mono fun e W' ⟨he, hm⟩ => ?_
  subst he
  have hbw := hm.below
  refine ⟨_, rfl, _, _, _, [], p0 ++ p1, [], hW', trodAll_mk1 (shut_bool Try.underlying4 _), ?_, rfl, hbw.frame _, fun h => by cases h⟩
  exact trodAll_mk2 (Below.trod laidOut (by kernel_rfl) (of_decide_eq_true (by kernel_rfl)) h0 hbw hlt0) (Below.trod laidOut (by kernel_rfl) (of_decide_eq_true (by kernel_rfl)) h1 hbw hlt1)

theorem proved : Rows.TxLaterSaid :=
  OpenClaim.holds_of_wide 3 Try.f3 rfl rfl rfl rfl rfl rfl rfl ⟨rfl, rfl, rfl, rfl, rfl⟩ rfl rfl rfl rfl rfl (by kernel_rfl) Try.func3 (by kernel_rfl)
    (of_decide_eq_true (by kernel_rfl)) (by unfold Func.isWrapper; first | (rw [if_pos (by decide +kernel)]; kernel_rfl) | (rw [if_neg (by decide +kernel)]; exact ⟨rfl, rfl⟩))
    (fun os started H enc _ => lifted os started H enc)
end Go.Proofs.Ytkohpfigapfcdaa.RowTxLater
