/-
  SLICES OF THE CALL's OWN, of one cell each: made, and written.
  No condition.
-/
import Derived.Test.YtpknhgimcabfcaaOOwn
import Derived.OwnWalk
namespace Go.Proofs.Om
open Go.RowKit

theorem flat_one {α : Type} {f : α → List Value} (g : α → Value) (hf : ∀ x, f x = [g x]) : ∀ l : List α, l.flatMap f = l.map g
  | [] => rfl
  | x :: l => by rw [List.flatMap_cons, hf, flat_one g hf l]; rfl

section
variable {α : Type} {w w' : World} {lo : Nat} {t : TypeId} {f : α → List Value} {v : Value} {l : List α}

theorem OwnL.free {s g cap n : Nat} (h : OwnL w lo t s f (.slice (some ⟨g, 0, none⟩) n cap) l) (j : Nat) : w.frozen? ⟨g, j, none⟩ = false := by
  obtain ⟨_, _, cur, hc⟩ := h.block (g := g) rfl
  simp [World.frozen?, hc]
theorem OwnL.cellAt {s g cap n : Nat} (h : OwnL w lo t s f (.slice (some ⟨g, 0, none⟩) n cap) l) (hf : ∀ x, (f x).length = s) {j i : Nat} {x : α} {u : Value} (hx : l[j]? = some x) (hi : (f x)[i]? = some u) : w.cell? ⟨g, j * s + i, none⟩ = some u := by
  obtain ⟨g', cap', e, _, hc⟩ := h.cell hf hx hi
  simp only [Value.slice.injEq, Option.some.injEq, Addr.mk.injEq] at e
  rw [e.1.1]
  exact hc
/-- 'out[j] = x' -/
theorem OwnL.set {g cap n : Nat} (h : OwnL w lo t 1 f (.slice (some ⟨g, 0, none⟩) n cap) l) (e : α → Value) (hf : ∀ x, f x = [e x]) (j : Nat) (x : α) (u : Value) (hu : u = e x) :
    OwnL (w.setCell ⟨g, j, none⟩ u) lo t 1 f (.slice (some ⟨g, 0, none⟩) n cap) (l.set j x) := by
  unfold OwnL at h ⊢
  rw [flat_one e hf] at h ⊢
  have hn : n = l.length := by
    rcases h.2 with ⟨h', _⟩ | ⟨g', cap', cur, h', _⟩
    · cases h'
    · cases h'; rfl
  subst hn
  have := (h.stored j u).1
  rw [hu] at this ⊢
  rw [List.length_set, List.map_set]
  exact this

theorem OwnL.made {n : Nat} {g : Nat} (e : α → Value) (hf : ∀ x, f x = [e x]) (x : α) (hx : (e x).cells = #[e x])
    (h : w.ownsRow lo t 1 (.slice (some ⟨g, 0, none⟩) n n) n (madeCells (e x).cells (n * 1)).toList) : OwnL w lo t 1 f (.slice (some ⟨g, 0, none⟩) n n) (List.replicate n x) := by
  unfold OwnL
  rw [flat_one e hf, List.length_replicate, List.map_replicate]
  have : (madeCells (e x).cells (n * 1)).toList = List.replicate n (e x) := by
    rw [hx]
    rw [List.eq_replicate_iff]
    refine ⟨by simp [madeCells], fun b hb => ?_⟩
    simp only [madeCells, Array.toList_map, List.mem_map] at hb
    obtain ⟨i, _, rfl⟩ := hb
    simp [Nat.mod_one]
  rwa [this] at h
end
end Go.Proofs.Om
