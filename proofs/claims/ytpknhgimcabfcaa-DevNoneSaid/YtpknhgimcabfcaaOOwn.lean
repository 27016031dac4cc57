/-
  SLICES OF THE CALL's OWN, as lists of things of so many cells each.
  No condition.
-/
import Derived.Test.YtpknhgimcabfcaaOMapWalk
import Derived.Maps.AppendAt
import Derived.Deep.AppendLies
import Derived.Deep.RegionHeld3
namespace Go.Proofs.Om
open Go.RowKit

theorem flat_get {α : Type} {f : α → List Value} {s : Nat} (hf : ∀ x, (f x).length = s) : ∀ (l : List α) (j i : Nat) (x : α), l[j]? = some x → i < s → (l.flatMap f)[j * s + i]? = (f x)[i]?
  | [], j, i, x, h, _ => by simp at h
  | y :: l, 0, i, x, h, hi => by
    simp at h; subst h
    rw [List.flatMap_cons, List.getElem?_append_left (by rw [hf]; omega), show 0 * s + i = i by omega]
  | y :: l, j + 1, i, x, h, hi => by
    rw [List.flatMap_cons, List.getElem?_append_right (by rw [hf, Nat.succ_mul]; omega), hf, show (j + 1) * s + i - s = j * s + i by rw [Nat.succ_mul]; omega]
    exact flat_get hf l j i x (by simpa using h) hi
theorem flat_length {α : Type} {f : α → List Value} {s : Nat} (hf : ∀ x, (f x).length = s) : ∀ (l : List α), (l.flatMap f).length = l.length * s
  | [] => by simp
  | y :: l => by rw [List.flatMap_cons, List.length_append, flat_length hf l, hf, List.length_cons, Nat.succ_mul, Nat.add_comm]

/-- v is a slice of the call's own (from block lo on) that holds l -/
def OwnL {α : Type} (w : World) (lo : Nat) (t : TypeId) (s : Nat) (f : α → List Value) (v : Value) (l : List α) : Prop :=
  w.ownsRow lo t s v l.length (l.flatMap f)

section
variable {α : Type} {w w' : World} {lo : Nat} {t : TypeId} {s : Nat} {f : α → List Value} {v : Value} {l : List α}

theorem OwnL.nil (w : World) (lo : Nat) (t : TypeId) (s : Nat) (f : α → List Value) : OwnL w lo t s f (.slice none 0 0) [] := ⟨by simp, .inl ⟨rfl, rfl⟩⟩
theorem OwnL.empty {w : World} {lo g : Nat} {t : TypeId} {s : Nat} {f : α → List Value} (hg : lo ≤ g) (h : w.heap[g]? = some (.cells #[] t (0, 0))) : OwnL w lo t s f (.slice (some ⟨g, 0, none⟩) 0 0) [] := ⟨by simp, .inr ⟨g, 0, #[], rfl, hg, h, Nat.le_refl _, by unfold maxLen; omega, by simp, by simp⟩⟩
theorem OwnL.form (h : OwnL w lo t s f v l) : ∃ A cap, v = .slice A l.length cap ∧ (∀ ad, A = some ad → lo ≤ ad.block ∧ ad.off = 0 ∧ ad.spot = none ∧ ad.block < w.heap.size) := by
  rcases h.2 with ⟨rfl, h0⟩ | ⟨g, cap, cur, rfl, h1, h2, _⟩
  · exact ⟨none, 0, by rw [h0], fun ad e => by cases e⟩
  · exact ⟨_, cap, rfl, fun ad e => by cases e; exact ⟨h1, rfl, rfl, (Array.getElem?_eq_some_iff.1 h2).1⟩⟩
theorem OwnL.cell (h : OwnL w lo t s f v l) (hf : ∀ x, (f x).length = s) {j i : Nat} {x : α} {u : Value} (hx : l[j]? = some x) (hi : (f x)[i]? = some u) :
    ∃ g cap, v = .slice (some ⟨g, 0, none⟩) l.length cap ∧ lo ≤ g ∧ w.cell? ⟨g, j * s + i, none⟩ = some u := by
  have his : i < s := by rw [← hf x]; exact (List.getElem?_eq_some_iff.1 hi).1
  have hg := flat_get hf l j i x hx his
  rcases h.2 with ⟨_, h0⟩ | ⟨g, cap, cur, rfl, h1, h2, h3, h4, h5, h6⟩
  · have : l = [] := List.eq_nil_of_length_eq_zero h0
    subst this; simp at hx
  · refine ⟨g, cap, rfl, h1, ?_⟩
    have hlt : j * s + i < (l.flatMap f).length := by
      rw [hi] at hg; exact (List.getElem?_eq_some_iff.1 hg).1
    rw [← h6, List.getElem?_take] at hg
    rw [flat_length hf] at hlt
    rw [if_pos hlt, hi] at hg
    simpa [World.cell?, h2] using hg
theorem OwnL.block (h : OwnL w lo t s f v l) {g : Nat} (hg : v.ownBlock = some g) : lo ≤ g ∧ g < w.heap.size ∧ ∃ cur, w.heap[g]? = some (.cells cur t (0, 0)) := by
  rcases h.2 with ⟨rfl, h0⟩ | ⟨g', cap, cur, rfl, h1, h2, h3, h4, h5, h6⟩
  · cases hg
  · cases hg
    exact ⟨h1, (Array.getElem?_eq_some_iff.1 h2).1, cur, h2⟩
theorem OwnL.keep (h : OwnL w lo t s f v l) (hb : ∀ g, v.ownBlock = some g → w'.heap[g]? = w.heap[g]?) : OwnL w' lo t s f v l := by
  refine ⟨h.1, ?_⟩
  rcases h.2 with h0 | ⟨g, cap, cur, rfl, h1, h2, h3⟩
  · exact .inl h0
  · exact .inr ⟨g, cap, cur, rfl, h1, (hb g rfl).trans h2, h3⟩
theorem OwnL.same (h : OwnL w lo t s f v l) (e : w'.heap = w.heap) : OwnL w' lo t s f v l := h.keep fun g _ => by rw [e]
theorem OwnL.mod {L : List Nat} (h : OwnL w lo t s f v l) (k : Mod L w w') (hn : ∀ g ∈ L, g < lo ∨ w.heap.size ≤ g) : OwnL w' lo t s f v l :=
  h.keep fun g hg => by
    obtain ⟨h1, h2, _⟩ := h.block hg
    exact k.block g h2 (fun hm => by rcases hn g hm with h | h <;> omega)
theorem OwnL.mod0 (h : OwnL w lo t s f v l) (k : Mod [] w w') : OwnL w' lo t s f v l := h.mod k (by simp)
theorem OwnL.modM {V : Type} {b : Nat} {q : IntKind} {enc : V → Value} {m : List (Int × V)} (h : OwnL w lo t s f v l) (k : Mod [b] w w') (hM : MapAt w b q enc m) : OwnL w' lo t s f v l :=
  h.keep fun g hg => by
    obtain ⟨h1, h2, cur, h3⟩ := h.block hg
    exact k.block g h2 (by simpa using hM.ne_heap h3)
theorem OwnL.lower {lo' : Nat} (h : OwnL w lo t s f v l) (hl : lo' ≤ lo) : OwnL w lo' t s f v l := by
  refine ⟨h.1, ?_⟩
  rcases h.2 with h0 | ⟨g, cap, cur, rfl, h1, h2, h3⟩
  · exact .inl h0
  · exact .inr ⟨g, cap, cur, rfl, by omega, h2, h3⟩
theorem OwnL.snoc {v' : Value} {x : α} (h : w'.ownsRow lo t s v' (l.length + 1) (l.flatMap f ++ f x)) : OwnL w' lo t s f v' (l ++ [x]) := by
  unfold OwnL
  simpa using h
end

/-- 'out = append(out, x)', x laid in a new block of its own -/
theorem wpList_append_one {α : Type} {P : Program} {w : World} {lo : Nat} {s : Nat} {f : α → List Value} {l : List α} {ops : Array Oper} {rest : List Oper} {o : Oper} {a : Act} {Q : Exit → Act → World → Prop}
    (hgd : o.guard = none) (so xo : Operand) (t : TypeId) (ho : o.op = .call { callee := .builtin .append, args := #[so, xo], argTypes := #[t, t] })
    (e : TypeId) (z : Value) (bytes : Nat) (ht : P.underlying t = some (.slice e)) (hinfo : (P.info? e).map (fun i => (i.zero, i.size, i.bytes)) = some (some z, s, bytes)) (hzs : z.cells.size = s) (hsz : 0 < s) (hf : ∀ x, (f x).length = s)
    (v : Value) (hs : a.eval so = v) (hown : OwnL w lo e s f v l) (x : α) (b : Nat) (hx : a.eval xo = .slice (some ⟨b, 0, none⟩) 1 1) (hc : ∀ i u, (f x)[i]? = some u → w.cell? ⟨b, i, none⟩ = some u) (h1 : ∀ u ∈ f x, u.oneCell' = true)
    (hlen : (l.length + 1) * bytes ≤ 140737488355328) (h63 : l.length + 1 ≤ 9223372036854775807) (hlo : lo ≤ w.heap.size)
    (h : ∀ v' w', OwnL w' lo e s f v' (l ++ [x]) → w.grownBy w' v.ownBlock → (∃ g cap, v' = .slice (some ⟨g, 0, none⟩) (l.length + 1) cap) → wpList P ops Q rest (a.put o.dst v') w') : wpList P ops Q (o :: rest) a w := by
  obtain ⟨i0, hi, hz0, hz1, hz2⟩ := info_parts hinfo
  refine wpList_append_own w hgd so xo t ho lo e i0 z s bytes ht hi hz0 hz1 hz2 hzs hsz v l.length _ hs hown ⟨b, 0, none⟩ 1 1 (f x) hx (by rw [hf]; omega) (fun j u hu => ?_) h1 (by unfold maxLen; omega) hlen hlo fun v' w' h2 h3 _ => ?_
  · rw [Addr.add_lit, Nat.zero_add]
    exact hc j u hu
  · refine h v' w' (OwnL.snoc h2) h3 ?_
    rcases h2.2 with ⟨e, h0⟩ | ⟨g, cap, cur, e, _⟩
    · omega
    · exact ⟨g, cap, e⟩
/-- the same at a step of a region that draws its order -/
theorem step_append_one {α : Type} {P : Program} {w : World} {lo : Nat} {s : Nat} {f : α → List Value} {l : List α} {ops : Array Oper} {o : Oper} {a : Act} {K : Act → World → Prop} {Q : Exit → Act → World → Prop} {E : Prop}
    (hgd : o.guard = none) (so xo : Operand) (t : TypeId) (ho : o.op = .call { callee := .builtin .append, args := #[so, xo], argTypes := #[t, t] })
    (e : TypeId) (z : Value) (bytes : Nat) (ht : P.underlying t = some (.slice e)) (hinfo : (P.info? e).map (fun i => (i.zero, i.size, i.bytes)) = some (some z, s, bytes)) (hzs : z.cells.size = s) (hsz : 0 < s) (hf : ∀ x, (f x).length = s)
    (v : Value) (hs : a.eval so = v) (hown : OwnL w lo e s f v l) (x : α) (b : Nat) (hx : a.eval xo = .slice (some ⟨b, 0, none⟩) 1 1) (hc : ∀ i u, (f x)[i]? = some u → w.cell? ⟨b, i, none⟩ = some u) (h1 : ∀ u ∈ f x, u.oneCell' = true)
    (hlen : (l.length + 1) * bytes ≤ 140737488355328) (h63 : l.length + 1 ≤ 9223372036854775807) (hlo : lo ≤ w.heap.size)
    (h : ∀ v' w', OwnL w' lo e s f v' (l ++ [x]) → w.grownBy w' v.ownBlock → (∃ g cap, v' = .slice (some ⟨g, 0, none⟩) (l.length + 1) cap) → K (a.put o.dst v') w') :
    if Region.wanted o (yielded ops a.tmps) = true then Oper.wp P o a w K Q else E := by
  obtain ⟨i0, hi, hz0, hz1, hz2⟩ := info_parts hinfo
  refine step_append_lies w hgd so xo t ho lo e i0 z s bytes ht hi hz0 hz1 hz2 hzs hsz v l.length _ hs hown ⟨b, 0, none⟩ 1 1 (f x) hx (by rw [hf]; omega) (fun j u hu => ?_) h1 (by omega) (by unfold maxLen; omega) hlen hlo w.heap.size rfl fun g cap w' h2 h3 _ _ => ?_
  · rw [Addr.add_lit, Nat.zero_add]
    exact hc j u hu
  · exact h _ w' (OwnL.snoc h2) h3 ⟨g, cap, rfl⟩
/-- what append may have changed -/
theorem Mod.appended {α : Type} {w0 w w' : World} {L : List Nat} {lo : Nat} {t : TypeId} {s : Nat} {f : α → List Value} {v : Value} {l : List α} (h : Mod L w0 w) (hown : OwnL w lo t s f v l) (hlo : w0.heap.size ≤ lo) (hg : w.grownBy w' v.ownBlock) : Mod L w0 w' :=
  h.grown hg fun g e hl => by have := (hown.block e).1; omega
end Go.Proofs.Om
