/-
  DevNone: THE ROW.
-/
import Derived.Test.YtpknhgimcabfcaaDvO
import Derived.Test.YtpknhgimcabfcaaDvP
import Derived.Test.YtpknhgimcabfcaaRows
import Derived.ProofKit
import Derived.OpenShut
namespace Go.Proofs.Ytpknhgimcabfcaa.RowDevNone
open Go.ChangeShapes Go.WideShapes Go.ChangeAt Go.RowKit Go.Proofs.Om

theorem own : ownKnob Try.prog.godebug = none := by kernel_rfl
theorem laidOut : laidOutB Try.prog = true := by kernel_rfl
theorem cellsA : Try.prog.cellsOf 42 = 7 := by kernel_rfl
theorem cellsFl : Try.prog.cellsOf 40 = 3 := by kernel_rfl
theorem fieldsA : ∃ f0 f1 f2 f3 f4 : Field, Try.prog.underlying 42 = some (.struct #[f0, f1, f2, f3, f4]) ∧ (f0.type = 3 ∧ f0.offset = 0) ∧ (f1.type = 3 ∧ f1.offset = 1) ∧ (f2.type = 5 ∧ f2.offset = 2) ∧ (f3.type = 4 ∧ f3.offset = 3) ∧ (f4.type = 40 ∧ f4.offset = 4) :=
  ⟨_, _, _, _, _, Try.underlying42, ⟨rfl, rfl⟩, ⟨rfl, rfl⟩, ⟨rfl, rfl⟩, ⟨rfl, rfl⟩, ⟨rfl, rfl⟩⟩
theorem fieldsF : ∃ f0 f1 f2 : Field, Try.prog.underlying 40 = some (.struct #[f0, f1, f2]) ∧ (f0.type = 3 ∧ f0.offset = 0) ∧ (f1.type = 38 ∧ f1.offset = 1) ∧ (f2.type = 3 ∧ f2.offset = 2) :=
  ⟨_, _, _, Try.underlying40, ⟨rfl, rfl⟩, ⟨rfl, rfl⟩, ⟨rfl, rfl⟩⟩
theorem one_int : Try.prog.cellsOf 3 = 1 := by kernel_rfl
theorem one_u64 : Try.prog.cellsOf 38 = 1 := by kernel_rfl
theorem one_u8 : Try.prog.cellsOf 5 = 1 := by kernel_rfl
theorem one_bool : Try.prog.cellsOf 4 = 1 := by kernel_rfl

section
variable {H : Type} {enc : TypeId × Value → H} {w : World} {base : Nat} {spare : Nat → Bool} {held : Bool}
theorem dec_fall (n : Nat) (cs : List Value) (y : DataW H × List MemPlace) (hl : cs.length = 3) (h : DataW.trod enc Try.prog w base spare held n 40 cs = some y) : ∃ i k t : Int, cs = [.int .i64 i, .int .u64 k, .int .i64 t] := by
  obtain ⟨f0, f1, f2, hu, ⟨t0, o0⟩, ⟨t1, o1⟩, ⟨t2, o2⟩⟩ := fieldsF
  obtain ⟨a, b, c, rfl⟩ : ∃ a b c, cs = [a, b, c] := by
    match cs, hl with
    | [a, b, c], _ => exact ⟨a, b, c, rfl⟩
  obtain ⟨ys, n', _, _, _, hyl, hf⟩ := DataW.trod_struct hu h
  have g0 := hf 0 f0 rfl
  have g1 := hf 1 f1 rfl
  have g2 := hf 2 f2 rfl
  rw [t0, o0, one_int] at g0
  rw [t1, o1, one_u64] at g1
  rw [t2, o2, one_int] at g2
  have hs : ys.length = 3 := hyl
  rw [List.getElem?_eq_getElem (by omega)] at g0 g1 g2
  obtain ⟨i, hi, _⟩ := DataW.trod_int Try.underlying3 g0
  obtain ⟨k, hk, _⟩ := DataW.trod_int Try.underlying38 g1
  obtain ⟨t, ht, _⟩ := DataW.trod_int Try.underlying3 g2
  simp at hi hk ht
  subst hi; subst hk; subst ht
  exact ⟨i, k, t, rfl⟩

theorem dec_act (n : Nat) (cs : List Value) (y : DataW H × List MemPlace) (hl : cs.length = 7) (h : DataW.trod enc Try.prog w base spare held n 42 cs = some y) :
    ∃ (kind at' c : Int) (odd : Bool) (i k t : Int), cs = [.int .i64 kind, .int .i64 at', .int .u8 c, .bool odd, .int .i64 i, .int .u64 k, .int .i64 t] ∧ 0 ≤ c ∧ c < 256 := by
  obtain ⟨f0, f1, f2, f3, f4, hu, ⟨t0, o0⟩, ⟨t1, o1⟩, ⟨t2, o2⟩, ⟨t3, o3⟩, ⟨t4, o4⟩⟩ := fieldsA
  obtain ⟨a, b, c, d, e, f, g, rfl⟩ : ∃ a b c d e f g, cs = [a, b, c, d, e, f, g] := by
    match cs, hl with
    | [a, b, c, d, e, f, g], _ => exact ⟨a, b, c, d, e, f, g, rfl⟩
  obtain ⟨ys, n', _, _, _, hyl, hf⟩ := DataW.trod_struct hu h
  have g0 := hf 0 f0 rfl
  have g1 := hf 1 f1 rfl
  have g2 := hf 2 f2 rfl
  have g3 := hf 3 f3 rfl
  have g4 := hf 4 f4 rfl
  rw [t0, o0, one_int] at g0
  rw [t1, o1, one_int] at g1
  rw [t2, o2, one_u8] at g2
  rw [t3, o3, one_bool] at g3
  rw [t4, o4, cellsFl] at g4
  have hs : ys.length = 5 := hyl
  rw [List.getElem?_eq_getElem (by omega)] at g0 g1 g2 g3 g4
  obtain ⟨kind, h0, _⟩ := DataW.trod_int Try.underlying3 g0
  obtain ⟨at', h1, _⟩ := DataW.trod_int Try.underlying3 g1
  obtain ⟨c', h2, _, hw⟩ := DataW.trod_int Try.underlying5 g2
  obtain ⟨odd, h3, _⟩ := DataW.trod_bool Try.underlying4 g3
  obtain ⟨i, k, t, h4⟩ := dec_fall _ _ _ (by rfl) g4
  simp at h0 h1 h2 h3 h4
  have hc : 0 ≤ c' ∧ c' ≤ 255 := by simpa [Lit.wf, IntKind.min, IntKind.max, IntKind.signed, IntKind.bits] using hw
  obtain ⟨rfl, rfl, rfl⟩ := h4
  subst h0; subst h1; subst h2; subst h3
  exact ⟨kind, at', c', odd, i, k, t, rfl, by omega, by omega⟩
end

set_option maxRecDepth 100000 in
theorem lifted (os : Os) (started : os.Started) (H : Type) (enc : TypeId × Value → H) :
    ReturnsInHanded {} Try.checked os 5 .any (Rows.devNoneSpec.pre6 enc Try.prog Try.f5 Rows.devNoneRow.domain false) (Rows.devNoneSpec.post enc Try.prog Try.f5 false true false false) := by
  refine returnsInHanded_of_change (C := Try.checked) own started (by kernel_rfl) Try.func5
    (ChangeSpec.witness6 (enc := enc) (C := Try.checked) false ⟨#[], #[.int .i64 0, .agg #[.int .i64 0, .int .i64 0, .int .u8 0, .bool false, .int .i64 0, .int .u64 0, .int .i64 0]], []⟩ 8 (by kernel_rfl) (by kernel_rfl) (by kernel_rfl) (by kernel_rfl)) ?_
  intro W base args ds gs before hval0 hW _ _
  have hval : ∀ (j : Nat) t v, Try.f5.params[j]? = some t → args[j]? = some v → Value.okWide Try.prog W .any base t v := hval0
  have hW' := hW
  obtain ⟨p, q, hA0, hV, rfl, _, _⟩ := hW
  have hA : DataW.TrodAll enc Try.prog W 0 (fun _ => true) true Try.f5.params.toList args.toList ds p := hA0
  rw [Try.params5] at hA hval
  obtain ⟨v0, v1, d0, d1, p0, p1, rfl, rfl, rfl, h0, h1⟩ := trodAll_two hA
  obtain ⟨rfl, rfl⟩ := trodVars_none hV
  obtain ⟨n, rfl, rfl, rfl, wa⟩ := open_int Try.underlying3 (hval 0 3 v0 rfl rfl) h0
  obtain ⟨cs, rfl, hcs⟩ := okWide_struct Try.underlying42 (hval 1 42 v1 rfl rfl)
  clear hA0 hval0
  simp only [List.append_nil, List.nil_append] at hW'
  have hlt1 : ∀ x ∈ p1, x.block < W.heap.size := fun x hx => by simpa using hW'.lt x (by simpa using hx)
  obtain ⟨fu1, hf1⟩ := id h1
  obtain ⟨kind, at', c, odd, i, k, t, hl, _, _⟩ := dec_act fu1 cs.toList _ (by rw [Array.length_toList, hcs, cellsA]) hf1
  have hcs' : cs = #[.int .i64 kind, .int .i64 at', .int .u8 c, .bool odd, .int .i64 i, .int .u64 k, .int .i64 t] := by
    cases cs; simpa using hl
  subst hcs'
  obtain ⟨x, hx, hx3⟩ := Dv.and_small n 3 (by omega)
  replace hx : bits BinOp.and IntKind.i64 n 3 = (x : Int) := hx
  have hc : Calls Try.prog 5 #[.int .i64 n, .agg #[.int .i64 kind, .int .i64 at', .int .u8 c, .bool odd, .int .i64 i, .int .u64 k, .int .i64 t]] W fun e w' => e = .returned (.bool true) ∧ Mod [] W w' := by
    by_cases hx1 : x ≤ 1
    · exact Dv.none_few n kind at' c i k t odd W x hx hx1
    · exact Dv.none_many n kind at' c i k t odd W x hx ⟨by omega, hx3⟩
  refine hc.mono fun e W' ⟨he, hm⟩ => ?_
  subst he
  have hbw := hm.below
  refine ⟨_, rfl, _, _, _, [], p1, [], hW', trodAll_mk1 (shut_bool Try.underlying4 _), ?_, rfl, hbw.frame _, fun h => by cases h⟩
  exact trodAll_mk2 (shut_int Try.underlying3 wa) (Below.trod laidOut (by kernel_rfl) (of_decide_eq_true (by kernel_rfl)) h1 hbw hlt1)

theorem proved : Rows.DevNoneSaid :=
  OpenClaim.holds_of_wide 5 Try.f5 rfl rfl rfl rfl rfl rfl rfl ⟨rfl, rfl, rfl, rfl, rfl⟩ rfl rfl rfl rfl rfl (by kernel_rfl) Try.func5 (by kernel_rfl)
    (of_decide_eq_true (by kernel_rfl)) (by unfold Func.isWrapper; first | (rw [if_pos (by decide +kernel)]; kernel_rfl) | (rw [if_neg (by decide +kernel)]; exact ⟨rfl, rfl⟩))
    (fun os started H enc _ => lifted os started H enc)
end Go.Proofs.Ytpknhgimcabfcaa.RowDevNone
