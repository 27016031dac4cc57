/-
  MAPS WITH WHOLE NUMBERS AS KEYS, AS RISING LISTS OF PAIRS: what a map's block holds, and what look-up, store, delete, len, clear and clone do to it.
  No condition.
-/
import Derived.MapKept
import Derived.WalkKit
import Derived.Maps.OwnSet
namespace Go.Proofs.Om
open Go.MapKept

section pure
variable {V : Type}
def get (k : Int) : List (Int × V) → Option V
  | [] => none
  | (a, v) :: r => if a = k then some v else get k r
def put (k : Int) (v : V) : List (Int × V) → List (Int × V)
  | [] => [(k, v)]
  | (a, u) :: r => if k < a then (k, v) :: (a, u) :: r else if a = k then (k, v) :: r else (a, u) :: put k v r
def del (k : Int) : List (Int × V) → List (Int × V)
  | [] => []
  | (a, u) :: r => if a = k then r else (a, u) :: del k r
def Asc : List (Int × V) → Prop := List.Pairwise fun p q => p.1 < q.1

theorem asc_nil : Asc ([] : List (Int × V)) := List.Pairwise.nil
theorem asc_tail {p : Int × V} {m : List (Int × V)} (h : Asc (p :: m)) : Asc m := (List.pairwise_cons.1 h).2
theorem asc_head {p : Int × V} {m : List (Int × V)} (h : Asc (p :: m)) : ∀ q ∈ m, p.1 < q.1 := (List.pairwise_cons.1 h).1

theorem mem_of_get {k : Int} {v : V} : ∀ {m : List (Int × V)}, get k m = some v → (k, v) ∈ m
  | (a, u) :: r, h => by
    unfold get at h
    split at h
    · rename_i e; subst e; cases h; exact List.mem_cons_self
    · exact List.mem_cons_of_mem _ (mem_of_get h)
theorem get_of_mem {k : Int} {v : V} : ∀ {m : List (Int × V)}, Asc m → (k, v) ∈ m → get k m = some v
  | (a, u) :: r, ha, h => by
    unfold get
    rcases List.mem_cons.1 h with e | e
    · cases e; simp
    · have := asc_head ha _ e
      rw [if_neg (by simp at this; omega)]
      exact get_of_mem (asc_tail ha) e
theorem get_none {k : Int} : ∀ {m : List (Int × V)}, get k m = none → ∀ p ∈ m, p.1 ≠ k
  | [], _ => by simp
  | (a, u) :: r, h => by
    unfold get at h
    split at h
    · cases h
    · rename_i e
      intro p hp
      rcases List.mem_cons.1 hp with rfl | hp
      · exact e
      · exact get_none h p hp
theorem get_none_of {k : Int} : ∀ {m : List (Int × V)}, (∀ p ∈ m, p.1 ≠ k) → get k m = none
  | [], _ => rfl
  | (a, u) :: r, h => by
    unfold get
    rw [if_neg (h _ List.mem_cons_self)]
    exact get_none_of fun p hp => h p (List.mem_cons_of_mem _ hp)

theorem mem_put {k : Int} {v : V} {p : Int × V} : ∀ {m : List (Int × V)}, Asc m → (p ∈ put k v m ↔ p = (k, v) ∨ (p ∈ m ∧ p.1 ≠ k))
  | [], _ => by simp [put]
  | (a, u) :: r, ha => by
    have hh := asc_head ha
    unfold put
    split
    · rename_i hk
      constructor
      · intro h
        rcases List.mem_cons.1 h with h | h
        · exact .inl h
        · refine .inr ⟨h, ?_⟩
          rcases List.mem_cons.1 h with rfl | h
          · show a ≠ k; omega
          · have := hh p h; simp at this; omega
      · rintro (h | ⟨h, _⟩)
        · subst h; exact List.mem_cons_self
        · exact List.mem_cons_of_mem _ h
    · split
      · rename_i hk e
        subst e
        constructor
        · intro h
          rcases List.mem_cons.1 h with h | h
          · exact .inl h
          · have := hh p h
            exact .inr ⟨List.mem_cons_of_mem _ h, by simp at this; omega⟩
        · rintro (h | ⟨h, hn⟩)
          · subst h; exact List.mem_cons_self
          · rcases List.mem_cons.1 h with rfl | h
            · exact absurd rfl hn
            · exact List.mem_cons_of_mem _ h
      · rename_i hk hne
        have ih := mem_put (k := k) (v := v) (p := p) (asc_tail ha)
        constructor
        · intro h
          rcases List.mem_cons.1 h with rfl | h
          · exact .inr ⟨List.mem_cons_self, hne⟩
          · rcases ih.1 h with h | ⟨h, hn⟩
            · exact .inl h
            · exact .inr ⟨List.mem_cons_of_mem _ h, hn⟩
        · rintro (h | ⟨h, hn⟩)
          · exact List.mem_cons_of_mem _ (ih.2 (.inl h))
          · rcases List.mem_cons.1 h with rfl | h
            · exact List.mem_cons_self
            · exact List.mem_cons_of_mem _ (ih.2 (.inr ⟨h, hn⟩))
theorem asc_put {k : Int} {v : V} : ∀ {m : List (Int × V)}, Asc m → Asc (put k v m)
  | [], _ => List.pairwise_singleton _ _
  | (a, u) :: r, ha => by
    have hh := asc_head ha
    unfold put
    split
    · rename_i hk
      refine List.pairwise_cons.2 ⟨?_, ha⟩
      intro q hq
      rcases List.mem_cons.1 hq with rfl | hq
      · exact hk
      · have := hh q hq; show k < q.1; simp at this; omega
    · split
      · rename_i e; subst e
        exact List.pairwise_cons.2 ⟨hh, asc_tail ha⟩
      · rename_i hk hne
        refine List.pairwise_cons.2 ⟨?_, asc_put (asc_tail ha)⟩
        intro q hq
        rcases (mem_put (asc_tail ha)).1 hq with rfl | ⟨h, _⟩
        · show a < k; omega
        · exact hh q h
theorem get_put {k j : Int} {v : V} {m : List (Int × V)} (ha : Asc m) : get j (put k v m) = if j = k then some v else get j m := by
  split
  · rename_i e; subst e
    exact get_of_mem (asc_put ha) ((mem_put ha).2 (.inl rfl))
  · rename_i e
    cases h : get j m with
    | none =>
      refine get_none_of fun p hp => ?_
      rcases (mem_put ha).1 hp with rfl | ⟨h', _⟩
      · show k ≠ j; exact fun x => e x.symm
      · exact get_none h p h'
    | some u => exact get_of_mem (asc_put ha) ((mem_put ha).2 (.inr ⟨mem_of_get h, e⟩))
theorem length_put_none {k : Int} {v : V} : ∀ {m : List (Int × V)}, get k m = none → (put k v m).length = m.length + 1
  | [], _ => rfl
  | (a, u) :: r, h => by
    unfold get at h
    unfold put
    split at h
    · cases h
    · rename_i e
      split
      · rfl
      · rw [List.length_cons, length_put_none h, List.length_cons]
theorem length_put_some {k : Int} {v u : V} : ∀ {m : List (Int × V)}, Asc m → get k m = some u → (put k v m).length = m.length
  | (a, x) :: r, ha, h => by
    unfold get at h
    unfold put
    split at h
    · rename_i e; subst e; rw [if_neg (by omega), if_pos rfl]; rfl
    · rename_i e
      have := asc_head ha _ (mem_of_get h)
      simp at this
      rw [if_neg (by omega), if_neg e, List.length_cons, length_put_some (asc_tail ha) h, List.length_cons]
theorem mem_del {k : Int} {p : Int × V} : ∀ {m : List (Int × V)}, Asc m → (p ∈ del k m ↔ p ∈ m ∧ p.1 ≠ k)
  | [], _ => by simp [del]
  | (a, u) :: r, ha => by
    have hh := asc_head ha
    unfold del
    split
    · rename_i e; subst e
      constructor
      · intro h; have := hh p h; exact ⟨List.mem_cons_of_mem _ h, by simp at this; omega⟩
      · rintro ⟨h, hn⟩
        rcases List.mem_cons.1 h with rfl | h
        · exact absurd rfl hn
        · exact h
    · rename_i e
      have ih := mem_del (k := k) (p := p) (asc_tail ha)
      constructor
      · intro h
        rcases List.mem_cons.1 h with rfl | h
        · exact ⟨List.mem_cons_self, e⟩
        · exact ⟨List.mem_cons_of_mem _ (ih.1 h).1, (ih.1 h).2⟩
      · rintro ⟨h, hn⟩
        rcases List.mem_cons.1 h with rfl | h
        · exact List.mem_cons_self
        · exact List.mem_cons_of_mem _ (ih.2 ⟨h, hn⟩)
theorem asc_del {k : Int} : ∀ {m : List (Int × V)}, Asc m → Asc (del k m)
  | [], _ => List.Pairwise.nil
  | (a, u) :: r, ha => by
    unfold del
    split
    · exact asc_tail ha
    · exact List.pairwise_cons.2 ⟨fun q hq => asc_head ha q ((mem_del (asc_tail ha)).1 hq).1, asc_del (asc_tail ha)⟩
theorem get_del {k j : Int} {m : List (Int × V)} (ha : Asc m) : get j (del k m) = if j = k then none else get j m := by
  split
  · rename_i e; subst e
    exact get_none_of fun p hp => ((mem_del ha).1 hp).2
  · rename_i e
    cases h : get j m with
    | none => exact get_none_of fun p hp => get_none h p ((mem_del ha).1 hp).1
    | some u => exact get_of_mem (asc_del ha) ((mem_del ha).2 ⟨mem_of_get h, e⟩)
theorem length_del_some {k : Int} {u : V} : ∀ {m : List (Int × V)}, get k m = some u → (del k m).length + 1 = m.length
  | (a, x) :: r, h => by
    unfold get at h
    unfold del
    split at h
    · rename_i e; rw [if_pos e]; rfl
    · rename_i e; rw [if_neg e, List.length_cons, length_del_some h, List.length_cons]
theorem del_none {k : Int} : ∀ {m : List (Int × V)}, get k m = none → del k m = m
  | [], _ => rfl
  | (a, x) :: r, h => by
    unfold get at h
    unfold del
    split at h
    · cases h
    · rename_i e; rw [if_neg e, del_none h]
/-- Two rising lists with the same pairs are one. -/
theorem asc_ext : ∀ {m n : List (Int × V)}, Asc m → Asc n → (∀ k, get k m = get k n) → m = n
  | [], [], _, _, _ => rfl
  | [], (a, u) :: r, _, _, h => by have := h a; simp [get] at this
  | (a, u) :: r, [], _, _, h => by have := h a; simp [get] at this
  | (a, u) :: r, (b, v) :: s, hm, hn, h => by
    have e : a = b := by
      have h1 := h a
      have h2 := h b
      by_cases hab : a = b
      · exact hab
      · rw [get, if_pos rfl, get, if_neg (fun x => hab x.symm)] at h1
        rw [get, if_neg hab, get, if_pos rfl] at h2
        have h3 := asc_head hn _ (mem_of_get h1.symm)
        have h4 := asc_head hm _ (mem_of_get h2)
        simp at h3 h4
        omega
    subst e
    have h1 := h a
    simp only [get, if_pos] at h1
    cases h1
    congr 1
    refine asc_ext (asc_tail hm) (asc_tail hn) fun k => ?_
    have hk := h k
    simp only [get] at hk
    split at hk
    · rename_i e; subst e
      rw [get_none_of fun p hp => by have := asc_head hm p hp; simp at this; omega, get_none_of fun p hp => by have := asc_head hn p hp; simp at this; omega]
    · exact hk
end pure

/-- BLOCK b OF w IS A MAP with keys of kind q, whose pairs are m's. -/
def MapAt {V : Type} (w : World) (b : Nat) (q : IntKind) (enc : V → Value) (m : List (Int × V)) : Prop :=
  ∃ es clock, w.heap[b]? = some (.map es clock) ∧ Stamped es clock ∧ es.size = m.length ∧ Asc m ∧
    (∀ e ∈ es.toList, ∃ p ∈ m, e.key = .int q p.1 ∧ e.val = enc p.2) ∧ ∀ p ∈ m, ∃ e ∈ es.toList, e.key = .int q p.1 ∧ e.val = enc p.2

section
variable {V : Type} {P : Program} {w : World} {b : Nat} {q : IntKind} {enc : V → Value} {m : List (Int × V)}

theorem MapAt.asc (h : MapAt w b q enc m) : Asc m := by obtain ⟨_, _, _, _, _, h, _⟩ := h; exact h
theorem MapAt.lt (h : MapAt w b q enc m) : b < w.heap.size := by
  obtain ⟨_, _, h, _⟩ := h
  exact (Array.getElem?_eq_some_iff.1 h).1
theorem MapAt.keep {w' : World} (h : MapAt w b q enc m) (hb : w'.heap[b]? = w.heap[b]?) : MapAt w' b q enc m := by
  obtain ⟨es, clock, h1, h2⟩ := h
  exact ⟨es, clock, hb.trans h1, h2⟩
theorem MapAt.made (w : World) : MapAt (w.alloc (.map #[] 0)) w.heap.size q enc [] :=
  ⟨#[], 0, (MapKept.heap_alloc w _).1, stamped_empty 0, rfl, asc_nil, by simp, by simp⟩

theorem find_of {es : Array MapEntry} {d : TypeDesc} (hd : d = .int q) (h1 : ∀ e ∈ es.toList, ∃ p ∈ m, e.key = .int q p.1 ∧ e.val = enc p.2) : ∀ x ∈ es.toList, IsKey d x.key := by
  intro x hx
  obtain ⟨p, _, e, _⟩ := h1 x hx
  subst hd
  rw [e]
  rfl

/-- What a look-up finds. -/
theorem MapAt.find (h : MapAt w b q enc m) (k : Int) : ∃ es clock, w.heap[b]? = some (.map es clock) ∧ (∀ x ∈ es.toList, IsKey (.int q) x.key) ∧
    ((get k m = none ∧ Instr.findNow (.int q) (.int q k) es.toList 0 = some none) ∨ ∃ v j, get k m = some v ∧ Instr.findNow (.int q) (.int q k) es.toList 0 = some (some (j, enc v))) := by
  obtain ⟨es, clock, hb, hs, hl, ha, h1, h2⟩ := h
  have hks := find_of (d := .int q) rfl h1
  refine ⟨es, clock, hb, hks, ?_⟩
  rcases findNow_spec (d := .int q) (k := .int q k) rfl es.toList 0 hks with ⟨g1, g2⟩ | ⟨j, e, g1, g2, g3⟩
  · refine .inl ⟨get_none_of fun p hp => ?_, g1⟩
    obtain ⟨e, he, hk, _⟩ := h2 p hp
    intro hpk
    exact g2 e he (by rw [hk, hpk])
  · obtain ⟨p, hp, hk, hv⟩ := h1 e (List.mem_of_getElem? g2)
    have hpk : p.1 = k := by rw [g3] at hk; injection hk with _ hk; exact hk.symm
    refine .inr ⟨p.2, j, get_of_mem ha (by rw [← hpk]; exact hp), by simpa [hv] using g1⟩

theorem MapAt.look {t kt et : TypeId} (h : MapAt w b q enc m) (ht : P.underlying t = some (.map kt et)) (hk : P.underlying kt = some (.int q)) (k : Int) {v : V} (hg : get k m = some v) (c : Bool) :
    (Instr.lookup t (.map (some b)) (.int q k) c).run P w = .ok (if c then .tuple #[enc v, .bool true] else enc v) w := by
  obtain ⟨es, clock, hb, hks, h' | ⟨v', j, h1, h2⟩⟩ := h.find k
  · rw [h'.1] at hg; cases hg
  · rw [h1] at hg; cases hg
    simp [Instr.lookup, run_underlying ht, MapKept.run_getObj_map hb, MapKept.run_checkKey (k := .int q k) hk rfl, MapKept.run_findKey hk h2, Result.andThen]
theorem MapAt.look_none {t kt et : TypeId} (h : MapAt w b q enc m) (ht : P.underlying t = some (.map kt et)) (hk : P.underlying kt = some (.int q)) {z : Value} (hz : (zeroValue et).run P w = .ok z w) (k : Int) (hg : get k m = none) (c : Bool) :
    (Instr.lookup t (.map (some b)) (.int q k) c).run P w = .ok (if c then .tuple #[z, .bool false] else z) w := by
  obtain ⟨es, clock, hb, hks, h' | ⟨v', j, h1, h2⟩⟩ := h.find k
  · simp [Instr.lookup, run_underlying ht, MapKept.run_getObj_map hb, MapKept.run_checkKey (k := .int q k) hk rfl, MapKept.run_findKey hk h'.2, Result.andThen, hz]
  · rw [h1] at hg; cases hg

/-- w' is w but for block b. -/
def But (w w' : World) (b : Nat) : Prop := ∃ o, w' = { w with heap := w.heap.setIfInBounds b o }
theorem But.block {w w' : World} {b : Nat} (h : But w w' b) {j : Nat} (hj : j ≠ b) : w'.heap[j]? = w.heap[j]? := by
  obtain ⟨o, rfl⟩ := h
  simp [Ne.symm hj]
theorem But.size {w w' : World} {b : Nat} (h : But w w' b) : w'.heap.size = w.heap.size := by
  obtain ⟨o, rfl⟩ := h
  simp
theorem But.os {w w' : World} {b : Nat} (h : But w w' b) : w'.os = w.os := by obtain ⟨o, rfl⟩ := h; rfl
theorem But.tape {w w' : World} {b : Nat} (h : But w w' b) : w'.tape = w.tape := by obtain ⟨o, rfl⟩ := h; rfl
theorem But.output {w w' : World} {b : Nat} (h : But w w' b) : w'.output = w.output := by obtain ⟨o, rfl⟩ := h; rfl

theorem mem_set' {α : Type} {l : List α} {j : Nat} {x y : α} (hj : j < l.length) : y ∈ l.set j x ↔ y = x ∨ ∃ i, i ≠ j ∧ l[i]? = some y := by
  constructor
  · intro h
    obtain ⟨i, hi⟩ := List.mem_iff_getElem?.1 h
    rw [List.getElem?_set] at hi
    split at hi
    · rename_i e; subst e
      cases hi; exact .inl rfl
    · rename_i e
      exact .inr ⟨i, fun x => e x.symm, hi⟩
  · rintro (rfl | ⟨i, hne, hi⟩)
    · exact List.mem_iff_getElem?.2 ⟨j, by simp [hj]⟩
    · exact List.mem_iff_getElem?.2 ⟨i, by rw [List.getElem?_set, if_neg (fun x => hne x.symm)]; exact hi⟩

theorem MapAt.store {t kt et : TypeId} (h : MapAt w b q enc m) (ht : P.underlying t = some (.map kt et)) (hk : P.underlying kt = some (.int q)) (k : Int) (v : V) :
    ∃ w', (Instr.mapUpdate t (.map (some b)) (.int q k) (enc v)).run P w = .ok () w' ∧ MapAt w' b q enc (put k v m) ∧ But w w' b := by
  obtain ⟨es, clock, hb, hs, hl, ha, h1, h2⟩ := h
  have hks := find_of (d := .int q) rfl h1
  rcases findNow_spec (d := .int q) (k := .int q k) rfl es.toList 0 hks with ⟨g1, g2⟩ | ⟨j, e, g1, g2, g3⟩
  · have hn : get k m = none := get_none_of fun p hp => by
      obtain ⟨e, he, hk, _⟩ := h2 p hp
      intro hpk
      exact g2 e he (by rw [hk, hpk])
    refine ⟨_, by simp [Instr.mapUpdate, run_underlying ht, MapKept.run_getObj_map hb, MapKept.run_checkKey (k := .int q k) hk rfl, MapKept.run_findKey hk g1, MapKept.run_setObj_map _ hb, Result.andThen]; rfl, ?_, ⟨_, rfl⟩⟩
    refine ⟨_, _, (heap_set hb).1, stamped_push hs g2, ?_, asc_put ha, ?_, ?_⟩
    · rw [length_put_none hn, Array.size_push, hl]
    · intro e he
      simp only [Array.toList_push, List.mem_append, List.mem_singleton] at he
      rcases he with he | rfl
      · obtain ⟨p, hp, hk', hv⟩ := h1 e he
        exact ⟨p, (mem_put ha).2 (.inr ⟨hp, get_none hn p hp⟩), hk', hv⟩
      · exact ⟨(k, v), (mem_put ha).2 (.inl rfl), rfl, rfl⟩
    · intro p hp
      simp only [Array.toList_push, List.mem_append, List.mem_singleton]
      rcases (mem_put ha).1 hp with rfl | ⟨hp, _⟩
      · exact ⟨_, .inr rfl, rfl, rfl⟩
      · obtain ⟨e, he, hk', hv⟩ := h2 p hp
        exact ⟨e, .inl he, hk', hv⟩
  · have hj : es[j]? = some e := by simpa using g2
    have hjl : j < es.toList.length := (List.getElem?_eq_some_iff.1 g2).1
    obtain ⟨p0, hp0, hk0, hv0⟩ := h1 e (List.mem_of_getElem? g2)
    have hpk : p0.1 = k := by rw [g3] at hk0; injection hk0 with _ hk0; exact hk0.symm
    have hsome : get k m = some p0.2 := get_of_mem ha (by rw [← hpk]; exact hp0)
    have hkeyf : ∀ e', es[j]? = some e' → ({ e' with key := .int q k, val := enc v } : MapEntry).key = e'.key := fun e' he' => by rw [hj] at he'; cases he'; exact g3.symm
    have hlist : (es.modify j (fun e' => { e' with key := .int q k, val := enc v })).toList = es.toList.set j { e with key := .int q k, val := enc v } := by
      rw [Array.toList_modify]
      apply List.ext_getElem?
      intro i
      rw [List.getElem?_modify, List.getElem?_set]
      by_cases hij : j = i
      · subst hij; simp [hj]; simpa using hjl
      · simp [hij]
    have hother : ∀ i x, i ≠ j → es.toList[i]? = some x → x.key ≠ .int q k := by
      intro i x hne hx hxk
      have hnd := hs.2.2
      have hi : i < es.toList.length := (List.getElem?_eq_some_iff.1 hx).1
      have := (List.getElem_inj (h₀ := by simpa using hi) (h₁ := by simpa using hjl) hnd).1 (by
        have e1 := (List.getElem?_eq_some_iff.1 hx).2
        have e2 := (List.getElem?_eq_some_iff.1 g2).2
        simp only [List.getElem_map, e1, e2, hxk, g3])
      exact hne this
    refine ⟨_, by simp [Instr.mapUpdate, run_underlying ht, MapKept.run_getObj_map hb, MapKept.run_checkKey (k := .int q k) hk rfl, MapKept.run_findKey hk g1, hj, g3, run_keyThatStays (d := .int q) (k := .int q k) rfl, MapKept.run_setObj_map _ hb, Result.andThen]; rfl, ?_, ⟨_, rfl⟩⟩
    refine ⟨_, _, (heap_set hb).1, stamped_modify hs _ _ (fun _ _ => rfl) (fun e' _ he' => hkeyf e' he'), ?_, asc_put ha, ?_, ?_⟩
    · rw [length_put_some ha hsome, Array.size_modify, hl]
    · intro x hx
      rw [hlist] at hx
      rcases (mem_set' hjl).1 hx with rfl | ⟨i, hne, hi⟩
      · exact ⟨(k, v), (mem_put ha).2 (.inl rfl), rfl, rfl⟩
      · obtain ⟨p, hp, hk', hv⟩ := h1 x (List.mem_of_getElem? hi)
        refine ⟨p, (mem_put ha).2 (.inr ⟨hp, fun hpk' => hother i x hne hi (by rw [hk', hpk'])⟩), hk', hv⟩
    · intro p hp
      rw [hlist]
      rcases (mem_put ha).1 hp with rfl | ⟨hp, hpn⟩
      · exact ⟨_, (mem_set' hjl).2 (.inl rfl), rfl, rfl⟩
      · obtain ⟨x, hx, hk', hv⟩ := h2 p hp
        obtain ⟨i, hi⟩ := List.mem_iff_getElem?.1 hx
        refine ⟨x, (mem_set' hjl).2 (.inr ⟨i, ?_, hi⟩), hk', hv⟩
        rintro rfl
        rw [g2] at hi; cases hi
        rw [g3] at hk'; injection hk' with _ hk'
        exact hpn hk'.symm

theorem MapAt.drop {t kt et ty : TypeId} (h : MapAt w b q enc m) (ht : P.underlying t = some (.map kt et)) (hk : P.underlying kt = some (.int q)) (k : Int) (ts : Array TypeId) (hts : ts[0]? = some t) :
    ∃ w', (Builtin.delete_ ts ty #[.map (some b), .int q k]).run P w = .ok (.tuple #[]) w' ∧ MapAt w' b q enc (del k m) ∧ But w w' b := by
  obtain ⟨es, clock, hb, hs, hl, ha, h1, h2⟩ := h
  have hks := find_of (d := .int q) rfl h1
  rcases findNow_spec (d := .int q) (k := .int q k) rfl es.toList 0 hks with ⟨g1, g2⟩ | ⟨j, e, g1, g2, g3⟩
  · have hn : get k m = none := get_none_of fun p hp => by
      obtain ⟨e, he, hk, _⟩ := h2 p hp
      intro hpk
      exact g2 e he (by rw [hk, hpk])
    refine ⟨_, by simp [Builtin.delete_, hts, run_underlying ht, MapKept.run_getObj_map hb, MapKept.run_checkKey (k := .int q k) hk rfl, MapKept.run_findKey hk g1, MapKept.run_setObj_map _ hb, Result.andThen]; rfl, ?_, ⟨_, rfl⟩⟩
    rw [del_none hn]
    exact ⟨es, clock, (heap_set hb).1, hs, hl, ha, h1, h2⟩
  · have hj : es[j]? = some e := by simpa using g2
    have hjl : j < es.toList.length := (List.getElem?_eq_some_iff.1 g2).1
    have hja : j < es.size := by simpa using hjl
    obtain ⟨p0, hp0, hk0, hv0⟩ := h1 e (List.mem_of_getElem? g2)
    have hpk : p0.1 = k := by rw [g3] at hk0; injection hk0 with _ hk0; exact hk0.symm
    have hsome : get k m = some p0.2 := get_of_mem ha (by rw [← hpk]; exact hp0)
    have hlist : (es.eraseIdxIfInBounds j).toList = es.toList.eraseIdx j := by
      unfold Array.eraseIdxIfInBounds
      rw [dif_pos hja, Array.toList_eraseIdx]
    have hother : ∀ i x, i ≠ j → es.toList[i]? = some x → x.key ≠ .int q k := by
      intro i x hne hx hxk
      have hnd := hs.2.2
      have hi : i < es.toList.length := (List.getElem?_eq_some_iff.1 hx).1
      have := (List.getElem_inj (h₀ := by simpa using hi) (h₁ := by simpa using hjl) hnd).1 (by
        have e1 := (List.getElem?_eq_some_iff.1 hx).2
        have e2 := (List.getElem?_eq_some_iff.1 g2).2
        simp only [List.getElem_map, e1, e2, hxk, g3])
      exact hne this
    refine ⟨_, by simp [Builtin.delete_, hts, run_underlying ht, MapKept.run_getObj_map hb, MapKept.run_checkKey (k := .int q k) hk rfl, MapKept.run_findKey hk g1, MapKept.run_setObj_map _ hb, Result.andThen]; rfl, ?_, ⟨_, rfl⟩⟩
    refine ⟨_, _, (heap_set hb).1, stamped_erase hs j, ?_, asc_del ha, ?_, ?_⟩
    · have hd := length_del_some hsome
      have hsz : (es.eraseIdxIfInBounds j).size = es.size - 1 := by
        unfold Array.eraseIdxIfInBounds
        rw [dif_pos hja, Array.size_eraseIdx]
      omega
    · intro x hx
      rw [hlist] at hx
      obtain ⟨i, hne, hi⟩ := List.mem_eraseIdx_iff_getElem?.1 hx
      obtain ⟨p, hp, hk', hv⟩ := h1 x (List.mem_of_getElem? hi)
      exact ⟨p, (mem_del ha).2 ⟨hp, fun hpk' => hother i x hne hi (by rw [hk', hpk'])⟩, hk', hv⟩
    · intro p hp
      rw [hlist]
      obtain ⟨hp, hpn⟩ := (mem_del ha).1 hp
      obtain ⟨x, hx, hk', hv⟩ := h2 p hp
      obtain ⟨i, hi⟩ := List.mem_iff_getElem?.1 hx
      refine ⟨x, List.mem_eraseIdx_iff_getElem?.2 ⟨i, ?_, hi⟩, hk', hv⟩
      rintro rfl
      rw [g2] at hi; cases hi
      rw [g3] at hk'; injection hk' with _ hk'
      exact hpn hk'.symm

theorem MapAt.len {t kt et ty : TypeId} (h : MapAt w b q enc m) (ht : P.underlying t = some (.map kt et)) (ts : Array TypeId) (hts : ts[0]? = some t) :
    (Builtin.len_ ts ty #[.map (some b)]).run P w = .ok (.int .i64 m.length) w := by
  obtain ⟨es, clock, hb, hs, hl, _⟩ := h
  simp [Builtin.len_, hts, run_underlying ht, MapKept.run_getObj_map hb, Result.andThen, goInt, hl]

theorem MapAt.clear {t kt et ty : TypeId} (h : MapAt w b q enc m) (ht : P.underlying t = some (.map kt et)) (ts : Array TypeId) (hts : ts[0]? = some t) :
    ∃ w', (Builtin.clear_ ts ty #[.map (some b)]).run P w = .ok (.tuple #[]) w' ∧ MapAt w' b q enc ([] : List (Int × V)) ∧ But w w' b := by
  obtain ⟨es, clock, hb, hs, hl, ha, h1, h2⟩ := h
  refine ⟨_, by simp [Builtin.clear_, hts, run_underlying ht, MapKept.run_getObj_map hb, MapKept.run_setObj_map _ hb, Result.andThen]; rfl, ?_, ⟨_, rfl⟩⟩
  exact ⟨#[], clock, (heap_set hb).1, stamped_empty _, rfl, asc_nil, by simp, by simp⟩
end
end Go.Proofs.Om
