/-
  A SLICE AS AN ARGUMENT: its elements, read to a list.
  No condition.
-/
import Derived.Test.YtkohpfigapfcdaaOMapWalk
import Derived.Deep.Slices
import Derived.ChangeSame
import Derived.ProofKit
namespace Go.Proofs.Om
open Go.ChangeShapes Go.WideShapes Go.Deep

section
variable {H : Type} {enc : TypeId × Value → H} {P : Program} {w : World} {base : Nat} {spare : Nat → Bool} {held : Bool}

theorem list_of {α : Type} {R : Nat → α → Prop} : ∀ n, (∀ i, i < n → ∃ x, R i x) → ∃ l : List α, l.length = n ∧ ∀ i x, l[i]? = some x → R i x
  | 0, _ => ⟨[], rfl, fun i x hx => by simp at hx⟩
  | n + 1, h => by
    obtain ⟨l, hl, hR⟩ := list_of n fun i hi => h i (by omega)
    obtain ⟨x, hx⟩ := h n (by omega)
    refine ⟨l ++ [x], by simp [hl], fun i y hy => ?_⟩
    by_cases hi : i < n
    · rw [List.getElem?_append_left (by omega)] at hy
      exact hR i y hy
    · rw [List.getElem?_append_right (by omega)] at hy
      have h0 : i - l.length = 0 := by
        have := (List.getElem?_eq_some_iff.1 hy).1
        simp at this
        omega
      rw [h0] at hy
      simp at hy
      subst hy
      have : i = n := by omega
      subst this
      exact hx

theorem add_flat (b o k : Nat) : (⟨b, o, none⟩ : Addr).add k = ⟨b, o + k, none⟩ := by
  unfold Addr.add
  split
  · rename_i h; subst h; rfl
  · rfl

theorem open_cells {α : Type} {f : α → List Value} {t e : TypeId} {fuel : Nat} {A : Option Addr} {len cap : Nat} {z : DataW H × List MemPlace} (ht : P.underlying t = some (.slice e))
    (dec : ∀ n cs y, cs.length = P.cellsOf e → DataW.trod enc P w base spare held n e cs = some y → ∃ x : α, cs = f x) (hs : 0 < P.cellsOf e) (hcap : ∀ b, spare b = true)
    (h : DataW.trod enc P w base spare held fuel t [.slice A len cap] = some z) :
    ∃ l : List α, l.length = len ∧ (len = 0 ∨ ∃ elems sp, z.1 = .slice elems sp ∧ elems.length = len) ∧ ∀ j x i u, l[j]? = some x → (f x)[i]? = some u → ∃ b o, A = some ⟨b, o, none⟩ ∧ w.cell? ⟨b, o + j * P.cellsOf e + i, none⟩ = some u := by
  rcases open_slice ht h with ⟨h0, _⟩ | ⟨a, len', cap', m, n, D, Pl, hcs, _, hl, hm, hmm, hz, hi⟩
  · cases h0
    exact ⟨[], rfl, .inl rfl, fun j x i u hx => by simp at hx⟩
  · cases hcs
    obtain ⟨l, hll, hR⟩ := list_of (R := fun i x => w.cells? base (a.add (i * P.cellsOf e)) (P.cellsOf e) = some (f x)) len fun i hi' => by
      obtain ⟨cs, hc, hd⟩ := hi i (by rw [hmm, hcap, if_pos rfl]; omega)
      obtain ⟨_, hcl, _⟩ := World.cells?_some hc
      obtain ⟨x, rfl⟩ := dec n cs _ hcl hd
      exact ⟨x, hc⟩
    refine ⟨l, hll, .inr ⟨_, _, by rw [hz], by simp⟩, fun j x i u hx hu => ?_⟩
    obtain ⟨b, off, spot⟩ := a
    have hspot : spot = none := by
      have hj := (List.getElem?_eq_some_iff.1 hx).1
      have hx0 : l[0]? = some (l[0]'(by omega)) := List.getElem?_eq_getElem (by omega)
      obtain ⟨_, hcl, hat⟩ := World.cells?_some (hR 0 _ hx0)
      have h0 := hat 0 hs
      rw [List.getElem?_eq_getElem (by omega)] at h0
      simpa [Addr.add] using World.cell?_spot h0
    subst hspot
    obtain ⟨_, hcl, hat⟩ := World.cells?_some (hR j x hx)
    have hil : i < P.cellsOf e := by rw [← hcl]; exact (List.getElem?_eq_some_iff.1 hu).1
    have hc := hat i hil
    rw [hu, add_flat, add_flat] at hc
    exact ⟨b, off, rfl, hc⟩
end
end Go.Proofs.Om
