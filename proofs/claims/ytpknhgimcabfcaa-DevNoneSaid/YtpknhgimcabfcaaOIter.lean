/-
  GOING OVER THE SAME MAPS: what range, next and entry do; which keys are still to come.
  No condition.
-/
import Derived.Test.YtpknhgimcabfcaaOMapWalk
import Derived.Maps.RangeWalk
import Derived.Sort.MapsRangeIn
import Derived.Sort.LoopGhostIn
import Derived.RangeFuncBox
import Derived.RangeFuncFrom
namespace Go.Proofs.Om
open Go.RowKit Go.MapKept
open Go.ChangeMaps (setBlock)

/-- r goes over the map b; the keys of todo are still to come. -/
def IterAt {V : Type} (w : World) (r b : Nat) (q : IntKind) (enc : V → Value) (m : List (Int × V)) (todo : List Int) : Prop :=
  ∃ es clock seen, w.heap[b]? = some (.map es clock) ∧ Stamped es clock ∧ es.size = m.length ∧ Asc m ∧
    (∀ e ∈ es.toList, ∃ p ∈ m, e.key = .int q p.1 ∧ e.val = enc p.2) ∧ (∀ p ∈ m, ∃ e ∈ es.toList, e.key = .int q p.1 ∧ e.val = enc p.2) ∧
    w.heap[r]? = some (.mapIter (some b) clock seen clock) ∧ todo.Nodup ∧ (∀ k, k ∈ todo ↔ ∃ e ∈ es.toList, e.key = .int q k ∧ e.born ∉ seen.toList)

section
variable {V : Type} {P : Program} {w : World} {r b : Nat} {q : IntKind} {enc : V → Value} {m : List (Int × V)} {todo : List Int}

theorem IterAt.mapAt (h : IterAt w r b q enc m todo) : MapAt w b q enc m := by
  obtain ⟨es, clock, seen, h1, h2, h3, h4, h5, h6, _⟩ := h
  exact ⟨es, clock, h1, h2, h3, h4, h5, h6⟩
theorem IterAt.iter (h : IterAt w r b q enc m todo) : ∃ o : Obj, w.heap[r]? = some o ∧ o.isWalk = true := by
  obtain ⟨es, clock, seen, h1, h2, h3, h4, h5, h6, h7, _⟩ := h
  exact ⟨_, h7, rfl⟩
theorem IterAt.ne (h : IterAt w r b q enc m todo) : r ≠ b := by
  rintro rfl
  obtain ⟨es, clock, seen, h1, h2, h3, h4, h5, h6, h7, _⟩ := h
  rw [h1] at h7; cases h7
theorem IterAt.keep {w' : World} (h : IterAt w r b q enc m todo) (hb : w'.heap[b]? = w.heap[b]?) (hr : w'.heap[r]? = w.heap[r]?) : IterAt w' r b q enc m todo := by
  obtain ⟨es, clock, seen, h1, h2, h3, h4, h5, h6, h7, h8⟩ := h
  exact ⟨es, clock, seen, hb.trans h1, h2, h3, h4, h5, h6, hr.trans h7, h8⟩
theorem IterAt.walks {w' : World} (h : IterAt w r b q enc m todo) (k : KeepsWalks w w') : IterAt w' r b q enc m todo := by
  obtain ⟨es, clock, seen, h1, h2, h3, h4, h5, h6, h7, h8⟩ := h
  exact ⟨es, clock, seen, k.same b _ h1 rfl, h2, h3, h4, h5, h6, k.same r _ h7 rfl, h8⟩
theorem asc_nodup : ∀ {m : List (Int × V)}, Asc m → (m.map (·.1)).Nodup
  | [], _ => List.nodup_nil
  | p :: m, h => by
    refine List.nodup_cons.2 ⟨fun hm => ?_, asc_nodup (asc_tail h)⟩
    obtain ⟨x, hx, e⟩ := List.mem_map.1 hm
    have := asc_head h x hx
    simp at e
    omega

/-- 'range m' -/
theorem IterAt.start {t kt et : TypeId} (h : MapAt w b q enc m) (ht : P.underlying t = some (.map kt et)) :
    ∃ w', (Instr.range t (.map (some b))).run P w = .ok (.pointer (some ⟨w.heap.size, 0, none⟩)) w' ∧ IterAt w' w.heap.size b q enc m (m.map (·.1)) ∧ ∃ o : Obj, w' = w.alloc o := by
  have hl := h.lt
  obtain ⟨es, clock, h1, h2, h3, h4, h5, h6⟩ := h
  refine ⟨w.alloc (.mapIter (some b) clock #[] clock), by simp [Instr.range, run_underlying ht, MapKept.run_getObj_map h1, Result.andThen], ?_, ⟨_, rfl⟩⟩
  refine ⟨es, clock, #[], ((MapKept.heap_alloc w _).2 b hl).trans h1, h2, h3, h4, h5, h6, (MapKept.heap_alloc w _).1, asc_nodup h4, fun k => ?_⟩
  constructor
  · intro hk
    obtain ⟨p, hp, rfl⟩ := List.mem_map.1 hk
    obtain ⟨e, he, hk, _⟩ := h6 p hp
    exact ⟨e, he, hk, by simp⟩
  · rintro ⟨e, he, hk, _⟩
    obtain ⟨p, hp, hk', _⟩ := h5 e he
    rw [hk] at hk'; injection hk' with _ hk'
    exact List.mem_map.2 ⟨p, hp, hk'.symm⟩

theorem mem_leftOf {es : Array MapEntry} {seen : Array Nat} {e : MapEntry} : e ∈ (leftOf es seen).toList ↔ e ∈ es.toList ∧ e.born ∉ seen.toList := by
  unfold leftOf
  simp

/-- 'next': nothing is left, or some key comes, with what stands at it. -/
theorem IterAt.next (h : IterAt w r b q enc m todo) (ty : TypeId) :
    (todo = [] ∧ (Instr.next (.pointer (some ⟨r, 0, none⟩)) false ty).run P w = .ok (.tuple #[.bool false]) w) ∨
    ∃ k v w', k ∈ todo ∧ get k m = some v ∧ (Instr.next (.pointer (some ⟨r, 0, none⟩)) false ty).run P w = .ok (.tuple #[.bool true, .int q k, enc v]) w' ∧ IterAt w' r b q enc m (todo.erase k) ∧ w.grownBy w' (some r) ∧ w'.heap.size = w.heap.size ∧
      (Instr.entry (.pointer (some ⟨r, 0, none⟩))).run P w' = .ok (.tuple #[.int q k, enc v]) w' := by
  have hne := h.ne
  obtain ⟨es, clock, seen, h1, h2, h3, h4, h5, h6, h7, h8, h9⟩ := h
  rcases run_next_at (P := P) w ty r b clock clock seen es clock h7 h1 h2.1 (Nat.le_refl _) with ⟨h0, hrun⟩ | ⟨e, he, w1, hal, hrun⟩
  · refine .inl ⟨?_, hrun⟩
    cases todo with
    | nil => rfl
    | cons k l =>
      obtain ⟨e, he, hk, hs⟩ := (h9 k).1 List.mem_cons_self
      have := mem_leftOf.2 ⟨he, hs⟩
      have hz : (leftOf es seen).toList = [] := List.eq_nil_of_length_eq_zero (by simpa using h0)
      rw [hz] at this; cases this
  · obtain ⟨hem, hes⟩ := mem_leftOf.1 he
    obtain ⟨p, hp, hk, hv⟩ := h5 e hem
    have hr1 : w1.heap[r]? = some (.mapIter (some b) clock seen clock) := by rcases hal with rfl | rfl <;> exact h7
    have hb1 : w1.heap[b]? = some (.map es clock) := by rcases hal with rfl | rfl <;> exact h1
    have hset := MapKept.heap_set (o' := .mapIter (some b) clock (seen.push e.born) clock) hr1
    have hb' : (setBlock w1 r (.mapIter (some b) clock (seen.push e.born) clock)).heap[b]? = some (.map es clock) := (hset.2 b (fun e1 => hne e1.symm)).trans hb1
    have hnd := ((stamped_iff es clock).1 h2).2.1
    refine .inr ⟨p.1, p.2, _, (h9 p.1).2 ⟨e, hem, hk, hes⟩, get_of_mem h4 hp, by rw [hrun, hk, hv], ⟨es, clock, seen.push e.born, hb', h2, h3, h4, h5, h6, hset.1, h8.erase _, fun k => ?_⟩, ?_, ?_, ?_⟩
    · rw [List.Nodup.mem_erase_iff h8, h9 k]
      constructor
      · rintro ⟨hkp, e', he', hk', hs'⟩
        refine ⟨e', he', hk', ?_⟩
        simp only [Array.toList_push, List.mem_append, List.mem_singleton, not_or]
        refine ⟨hs', fun hb => hkp ?_⟩
        have : e' = e := by
          obtain ⟨i, hi, ei⟩ := List.getElem_of_mem he'
          obtain ⟨j, hj, ej⟩ := List.getElem_of_mem hem
          have hij := (List.getElem_inj (h₀ := by simpa using hi) (h₁ := by simpa using hj) hnd).1 (by simp only [List.getElem_map, ei, ej, hb])
          subst hij
          rw [← ei, ← ej]
        subst this
        rw [hk] at hk'; injection hk' with _ hk'
        exact hk'.symm
      · rintro ⟨e', he', hk', hs'⟩
        simp only [Array.toList_push, List.mem_append, List.mem_singleton, not_or] at hs'
        refine ⟨?_, e', he', hk', hs'.1⟩
        rintro rfl
        have : e' = e := by
          obtain ⟨i, hi, ei⟩ := List.getElem_of_mem he'
          obtain ⟨j, hj, ej⟩ := List.getElem_of_mem hem
          have hij := (List.getElem_inj (h₀ := by simpa using hi) (h₁ := by simpa using hj) h2.2.2).1 (by simp only [List.getElem_map, ei, ej, hk, hk'])
          subst hij
          rw [← ei, ← ej]
        subst this
        exact hs'.2 rfl
    · rcases hal with rfl | rfl
      · exact ⟨rfl, rfl, rfl, by simp [setBlock], fun i _ hi => hset.2 i (fun e => hi (by rw [e]))⟩
      · exact ⟨rfl, rfl, rfl, by simp [setBlock], fun i _ hi => hset.2 i (fun e => hi (by rw [e]))⟩
    · rcases hal with rfl | rfl <;> simp [setBlock]
    · have := run_entry_at (P := P) (setBlock w1 r (.mapIter (some b) clock (seen.push e.born) clock)) r b clock seen es clock e hset.1 hb' hem hnd
      rw [this, hk, hv]
end

section
variable {V : Type} {P : Program} {w : World} {r b : Nat} {q : IntKind} {enc : V → Value} {M : List (Int × V)} {todo : List Int}
variable {ops : Array Oper} {rest : List Oper} {o : Oper} {a : Act} {Q : Exit → Act → World → Prop}

theorem wpList_range_at (hg : o.guard = none) (m : Operand) (t : TypeId) (hop : o.op = Op.range t m) {kt et : TypeId} (ht : P.underlying t = some (.map kt et)) (hM : MapAt w b q enc M) (hm : a.eval m = .map (some b))
    (hK : ∀ o' : Obj, IterAt (w.alloc o') w.heap.size b q enc M (M.map (·.1)) → wpList P ops Q rest (a.put o.dst (.pointer (some ⟨w.heap.size, 0, none⟩))) (w.alloc o')) : wpList P ops Q (o :: rest) a w := by
  refine wpList_plain hg fun K' hK' => ?_
  obtain ⟨w', hrun, h1, o', rfl⟩ := IterAt.start (P := P) hM ht
  unfold Oper.wp
  simp [execOp, hop, hm, hrun, Result.andThen]
  exact hK' _ _ (hK o' h1)
theorem wpList_next_at (hg : o.guard = none) (it : Operand) (hop : o.op = Op.next it false) (hit : a.eval it = .pointer (some ⟨r, 0, none⟩)) (h : IterAt w r b q enc M todo)
    (hDone : todo = [] → wpList P ops Q rest (a.put o.dst (.tuple #[.bool false])) w)
    (hMore : ∀ k v w', k ∈ todo → get k M = some v → IterAt w' r b q enc M (todo.erase k) → w.grownBy w' (some r) → w'.heap.size = w.heap.size →
      (Instr.entry (.pointer (some ⟨r, 0, none⟩))).run P w' = .ok (.tuple #[.int q k, enc v]) w' → wpList P ops Q rest (a.put o.dst (.tuple #[.bool true, .int q k, enc v])) w') : wpList P ops Q (o :: rest) a w := by
  refine wpList_plain hg fun K' hK' => ?_
  unfold Oper.wp
  rcases h.next (P := P) o.type with ⟨h0, hrun⟩ | ⟨k, v, w', hk, hv, hrun, hi, hgr, hsz, hen⟩
  · simp [execOp, hop, hit, hrun, Result.andThen]
    exact hK' _ _ (hDone h0)
  · simp [execOp, hop, hit, hrun, Result.andThen]
    exact hK' _ _ (hMore k v w' hk hv hi hgr hsz hen)
end

section
variable {V : Type} {F : Fence} {n : Nat} {P : Program} {w : World} {r b : Nat} {q : IntKind} {enc : V → Value} {M : List (Int × V)} {todo : List Int}
variable {ops : Array Oper} {rest : List Oper} {o : Oper} {a : Act} {Q : Exit → Act → World → Prop}

theorem wpListIn_range_at (hg : o.guard = none) (m : Operand) (t : TypeId) (hop : o.op = Op.range t m) {kt et : TypeId} (ht : P.underlying t = some (.map kt et)) (hM : MapAt w b q enc M) (hm : a.eval m = .map (some b))
    (hK : ∀ o' : Obj, IterAt (w.alloc o') w.heap.size b q enc M (M.map (·.1)) → wpListIn F n P ops Q rest (a.put o.dst (.pointer (some ⟨w.heap.size, 0, none⟩))) (w.alloc o')) : wpListIn F n P ops Q (o :: rest) a w := by
  refine wpListIn_plain hg fun K' hK' => ?_
  unfold Oper.wpIn
  refine ⟨by simp [Oper.about, hop], ?_⟩
  rw [Oper.semAt_plain F _ _ (by rw [hop]; intro c hc'; cases hc')]
  obtain ⟨w', hrun, h1, o', rfl⟩ := IterAt.start (P := P) hM ht
  simp [execOp, hop, hm, hrun, Result.andThen]
  exact hK' _ _ (hK o' h1)
theorem wpListIn_next_at (hg : o.guard = none) (it : Operand) (hop : o.op = Op.next it false) (hit : a.eval it = .pointer (some ⟨r, 0, none⟩)) (h : IterAt w r b q enc M todo)
    (hDone : todo = [] → wpListIn F n P ops Q rest (a.put o.dst (.tuple #[.bool false])) w)
    (hMore : ∀ k v w', k ∈ todo → get k M = some v → IterAt w' r b q enc M (todo.erase k) → w.grownBy w' (some r) → w'.heap.size = w.heap.size →
      (Instr.entry (.pointer (some ⟨r, 0, none⟩))).run P w' = .ok (.tuple #[.int q k, enc v]) w' → wpListIn F n P ops Q rest (a.put o.dst (.tuple #[.bool true, .int q k, enc v])) w') : wpListIn F n P ops Q (o :: rest) a w := by
  refine wpListIn_plain hg fun K' hK' => ?_
  unfold Oper.wpIn
  refine ⟨by simp [Oper.about, hop], ?_⟩
  rw [Oper.semAt_plain F _ _ (by rw [hop]; intro c hc'; cases hc')]
  rcases h.next (P := P) o.type with ⟨h0, hrun⟩ | ⟨k, v, w', hk, hv, hrun, hi, hgr, hsz, hen⟩
  · simp [execOp, hop, hit, hrun, Result.andThen]
    exact hK' _ _ (hDone h0)
  · simp [execOp, hop, hit, hrun, Result.andThen]
    exact hK' _ _ (hMore k v w' hk hv hi hgr hsz hen)
end
end Go.Proofs.Om
