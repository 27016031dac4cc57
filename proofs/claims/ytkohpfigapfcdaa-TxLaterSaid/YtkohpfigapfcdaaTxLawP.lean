/-
  TxLater, PLAIN: what one transaction changed, done to the records, is what it tells.
  No condition.
-/
import Derived.Test.YtkohpfigapfcdaaDo
namespace Go.Proofs.Ytkohpfigapfcdaa.Tx
open Go.RowKit Go.Proofs.Om

theorem find_append (j : Int) (a : List Bd) : ∀ b : List Bd, find j (b ++ a) = if (find j b).2 then find j b else find j a
  | [] => by simp [find]
  | b :: r => by
    simp only [List.cons_append, find]
    split
    · rfl
    · exact find_append j a r

theorem find_none (j : Int) : ∀ l : List Bd, (find j l).2 = false → find j l = (⟨#[]⟩, false)
  | [], _ => rfl
  | b :: r, h => by
    unfold find at h ⊢
    split at h
    · cases h
    · rename_i e
      rw [if_neg e]
      exact find_none j r h

theorem find_if {j : Int} {c : Bd} (q : Bool) (h : c.id ≠ j) : find j (if q = true then [c] else []) = (⟨#[]⟩, false) := by
  cases q <;> simp [find, h]

theorem find_doGo (c : Ch) (j : Int) : ∀ (inn : Bool) (l : List Bd), find j (doGo c inn l) = if j = c.id then (if inn then (⟨#[]⟩, false) else (c.s, true)) else find j l
  | inn, [] => by
    cases inn <;> by_cases h : j = c.id
    · subst h; simp [doGo, find]
    · simp [doGo, find, h, Ne.symm h]
    · simp [doGo, find]
    · simp [doGo, find]
  | inn, b :: r => by
    have ih := find_doGo c j (inn || decide (c.id ≤ b.id)) r
    unfold doGo
    rw [List.append_assoc, find_append, find_append, ih]
    by_cases h : j = c.id
    · subst h
      cases inn
      · by_cases hb : c.id ≤ b.id
        · simp [hb, find]
        · have : b.id ≠ c.id := by omega
          simp [hb, find, this]
      · by_cases hb : b.id = c.id
        · simp [hb, find]
        · simp [hb, find]
    · by_cases hb : b.id = c.id
      · have hbj : ¬ c.id = j := fun e => h e.symm
        simp only [hb, find, h]
        cases inn <;> simp [find, hbj]
      · by_cases hj : b.id = j
        · subst hj
          rw [find_if _ (fun e => hb e.symm)]
          simp [find, hb]
        · rw [find_if _ (fun e => h e.symm)]
          simp [find, hb, h, hj]

/-- what is kept of a transaction: its keys rise, each change has its key, what is gone has no bytes, keys below 8 -/
def Wf (own : List (Int × Ch)) : Prop := ∀ p ∈ own, p.2.id = p.1 ∧ (p.2.gone = true → p.2.s = ⟨#[]⟩) ∧ 0 ≤ p.1 ∧ p.1 < 8

theorem wf_nil : Wf [] := fun p hp => by cases hp
theorem wf_put {own : List (Int × Ch)} {c : Ch} (ha : Asc own) (h : Wf own) (hc : c.gone = true → c.s = ⟨#[]⟩) (h0 : 0 ≤ c.id) (h8 : c.id < 8) : Wf (put c.id c own) := fun p hp => by
  rcases (mem_put ha).1 hp with rfl | ⟨hp, _⟩
  · exact ⟨rfl, hc, h0, h8⟩
  · exact h p hp
theorem wf_doR {recs : List Bd} {own : List (Int × Ch)} {c : Ch} (ha : Asc own) (h : Wf own) (h0 : 0 ≤ c.id) (h8 : c.id < 8) : Asc (doR recs own c) ∧ Wf (doR recs own c) := by
  unfold doR
  split
  · unfold dropR
    split
    · exact ⟨asc_put ha, wf_put (c := ⟨c.id, ⟨#[]⟩, true⟩) ha h (fun _ => rfl) h0 h8⟩
    · exact ⟨ha, h⟩
  · exact ⟨asc_put ha, wf_put (c := ⟨c.id, c.s, false⟩) ha h (fun e => by cases e) h0 h8⟩
theorem wf_fold {recs : List Bd} : ∀ (cs : List Ch) (own : List (Int × Ch)), Asc own → Wf own → (∀ c ∈ cs, 0 ≤ c.id ∧ c.id < 8) → Asc (cs.foldl (doR recs) own) ∧ Wf (cs.foldl (doR recs) own)
  | [], _, ha, h, _ => ⟨ha, h⟩
  | c :: cs, own, ha, h, hc => by
    have h1 := wf_doR (recs := recs) ha h (hc c (by simp)).1 (hc c (by simp)).2
    exact wf_fold cs _ h1.1 h1.2 fun d hd => hc d (by simp [hd])

theorem asc_len {V : Type} : ∀ (m : List (Int × V)) (a b : Int), Asc m → (∀ p ∈ m, a ≤ p.1 ∧ p.1 < b) → (m.length : Int) ≤ b - a ∨ m = []
  | [], _, _, _, _ => .inr rfl
  | p :: m, a, b, ha, h => by
    left
    have hp := h p (by simp)
    rcases asc_len m (p.1 + 1) b (asc_tail ha) (fun q hq => ⟨asc_head ha q hq, (h q (by simp [hq])).2⟩) with h1 | rfl
    · simp only [List.length_cons]; omega
    · simp; omega
theorem wf_len {own : List (Int × Ch)} (ha : Asc own) (h : Wf own) : own.length ≤ 8 := by
  rcases asc_len own 0 8 ha (fun p hp => (h p hp).2.2) with h1 | rfl
  · omega
  · simp

theorem find_doL (recs : List Bd) (j : Int) : ∀ (own : List (Int × Ch)) (l : List Bd), Asc own → Wf own →
    find j (doL l (changesR own recs)) = match Om.get j own with
      | some c => if chg c (find j recs) then (if c.gone then (⟨#[]⟩, false) else (c.s, true)) else find j l
      | none => find j l
  | [], l, _, _ => rfl
  | p :: own, l, ha, hw => by
    have hp := hw p (by simp)
    have ih := fun l => find_doL recs j own l (asc_tail ha) fun q hq => hw q (by simp [hq])
    have hgt : p.1 = j → Om.get j own = none := fun e => get_none_of fun q hq => by have := asc_head ha q hq; omega
    have e1 : changesR (p :: own) recs = (if chg p.2 (find p.1 recs) then [p.2] else []) ++ changesR own recs := by
      unfold changesR
      by_cases hc : chg p.2 (find p.1 recs) = true
      · rw [if_pos hc, List.filter_cons, if_pos hc]; rfl
      · rw [if_neg hc, List.filter_cons, if_neg hc]; rfl
    have e2 : Om.get j (p :: own) = if j = p.1 then some p.2 else Om.get j own := by
      obtain ⟨k, v⟩ := p
      by_cases hj : j = k
      · subst hj; simp [Om.get]
      · have : ¬ k = j := fun e => hj e.symm
        simp [Om.get, hj, this]
    rw [e1, e2]
    by_cases hc : chg p.2 (find p.1 recs) = true
    · rw [if_pos hc]
      show find j (doL (doGo p.2 p.2.gone l) (changesR own recs)) = _
      rw [ih, find_doGo, hp.1]
      by_cases hj : j = p.1
      · subst hj
        rw [hgt rfl, if_pos rfl, if_pos rfl]
        simp only [hc, if_true]
      · rw [if_neg hj, if_neg hj]
    · rw [if_neg hc]
      show find j (doL l (changesR own recs)) = _
      rw [ih]
      by_cases hj : j = p.1
      · subst hj
        rw [hgt rfl, if_pos rfl]
        simp only [hc]
        simp
      · rw [if_neg hj]

theorem later (own : List (Int × Ch)) (recs : List Bd) (ha : Asc own) (hw : Wf own) (j : Int) : getR j own recs = find j (doL recs (changesR own recs)) := by
  rw [find_doL recs j own recs ha hw]
  unfold getR
  cases hg : Om.get j own with
  | none => rfl
  | some c =>
    obtain ⟨hid, hs, _⟩ := hw (j, c) (mem_of_get hg)
    obtain ⟨id, s, gone⟩ := c
    dsimp only at *
    obtain ⟨⟨r, is⟩, hr⟩ : ∃ r, find j recs = r := ⟨_, rfl⟩
    rw [hr]
    cases gone
    · cases is
      · simp [chg]
      · by_cases e : r.toList = s.toList
        · have : r = s := by
            cases r; cases s; simp_all [ByteArray.toList_eq]
          subst this
          simp [chg]
        · simp [chg, e]
    · cases is
      · have := find_none j recs (by rw [hr])
        rw [hr] at this
        simp [chg, hs rfl]
        cases this; rfl
      · simp [chg, hs rfl]
end Go.Proofs.Ytkohpfigapfcdaa.Tx
