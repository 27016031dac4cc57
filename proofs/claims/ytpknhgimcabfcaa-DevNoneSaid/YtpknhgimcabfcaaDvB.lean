/-
  A DEVICE IN MEMORY; what its short methods tell.
  No condition.
-/
import Derived.Test.YtpknhgimcabfcaaDvA
import Derived.Test.YtpknhgimcabfcaaLay
namespace Go.Proofs.Ytpknhgimcabfcaa.Dv
open Go.RowKit Go.Proofs.Om

structure Fl where
  at' : Int
  keep : Int
  torn : Int
def cellsF (f : Fl) : List Value := [.int .i64 f.at', .int .u64 f.keep, .int .i64 f.torn]
def cellsS (s : ByteArray) : List Value := [.string s]

structure DevS where
  sure : List ByteArray
  cache : List (Int × ByteArray)
  steps : Nat
  falls : List Fl
  off : Bool
/-- where a device lies: its block, its cache's, its slices -/
structure Pl where
  p : Nat
  b : Nat
  sv : Value
  fv : Value

def DevAt (w : World) (q : Pl) (D : DevS) : Prop :=
  w.heap[q.p]? = some (.cells #[q.sv, .map (some q.b), .int .i64 D.steps, q.fv, .bool D.off] 58 (0, 0)) ∧
  OwnL w 0 9 1 cellsS q.sv D.sure ∧ MapAt w q.b .i64 Value.string D.cache ∧ OwnL w 0 40 3 cellsF q.fv D.falls
def Pl.foot (q : Pl) : List Nat := q.p :: q.b :: (q.sv.ownBlock.toList ++ q.fv.ownBlock.toList)

section
variable {w w' : World} {q : Pl} {D : DevS}
theorem DevAt.c0 (h : DevAt w q D) : w.cell? ⟨q.p, 0, none⟩ = some q.sv := by simp [World.cell?, h.1]
theorem DevAt.c1 (h : DevAt w q D) : w.cell? ⟨q.p, 1, none⟩ = some (.map (some q.b)) := by simp [World.cell?, h.1]
theorem DevAt.c2 (h : DevAt w q D) : w.cell? ⟨q.p, 2, none⟩ = some (.int .i64 D.steps) := by simp [World.cell?, h.1]
theorem DevAt.c3 (h : DevAt w q D) : w.cell? ⟨q.p, 3, none⟩ = some q.fv := by simp [World.cell?, h.1]
theorem DevAt.c4 (h : DevAt w q D) : w.cell? ⟨q.p, 4, none⟩ = some (.bool D.off) := by simp [World.cell?, h.1]
theorem DevAt.free (h : DevAt w q D) (i : Nat) : w.frozen? ⟨q.p, i, none⟩ = false := by simp [World.frozen?, h.1]
theorem DevAt.lt (h : DevAt w q D) : q.p < w.heap.size := (Array.getElem?_eq_some_iff.1 h.1).1
theorem DevAt.pb (h : DevAt w q D) : q.p ≠ q.b := by
  intro e
  obtain ⟨es, clock, h2, _⟩ := h.2.2.1
  rw [← e, h.1] at h2; cases h2
theorem DevAt.ps (h : DevAt w q D) : q.sv.ownBlock ≠ some q.p := by
  intro e
  obtain ⟨_, _, cur, h2⟩ := h.2.1.block e
  rw [h.1] at h2; cases h2
theorem DevAt.pf (h : DevAt w q D) : q.fv.ownBlock ≠ some q.p := by
  intro e
  obtain ⟨_, _, cur, h2⟩ := h.2.2.2.block e
  rw [h.1] at h2; cases h2
theorem DevAt.bs (h : DevAt w q D) : q.sv.ownBlock ≠ some q.b := by
  intro e
  obtain ⟨_, _, cur, h2⟩ := h.2.1.block e
  obtain ⟨es, clock, h3, _⟩ := h.2.2.1
  rw [h3] at h2; cases h2
theorem DevAt.bf (h : DevAt w q D) : q.fv.ownBlock ≠ some q.b := by
  intro e
  obtain ⟨_, _, cur, h2⟩ := h.2.2.2.block e
  obtain ⟨es, clock, h3, _⟩ := h.2.2.1
  rw [h3] at h2; cases h2
theorem DevAt.sf (h : DevAt w q D) {g : Nat} (hs : q.sv.ownBlock = some g) : q.fv.ownBlock ≠ some g := by
  intro e
  obtain ⟨_, _, cur, h2⟩ := h.2.2.2.block e
  obtain ⟨_, _, cur', h3⟩ := h.2.1.block hs
  rw [h3] at h2; cases h2
theorem mem_foot {j : Nat} : j ∈ q.foot ↔ j = q.p ∨ j = q.b ∨ q.sv.ownBlock = some j ∨ q.fv.ownBlock = some j := by
  unfold Pl.foot
  simp [Option.mem_toList]
theorem DevAt.foot_lt (h : DevAt w q D) : ∀ j ∈ q.foot, j < w.heap.size := fun j hj => by
  rcases mem_foot.1 hj with rfl | rfl | e | e
  · exact h.lt
  · exact h.2.2.1.lt
  · exact (h.2.1.block e).2.1
  · exact (h.2.2.2.block e).2.1
theorem DevAt.keep (h : DevAt w q D) (k : ∀ j ∈ q.foot, w'.heap[j]? = w.heap[j]?) : DevAt w' q D :=
  ⟨(k _ (mem_foot.2 (.inl rfl))).trans h.1, h.2.1.keep fun g e => k g (mem_foot.2 (.inr (.inr (.inl e)))), h.2.2.1.keep (k _ (mem_foot.2 (.inr (.inl rfl)))), h.2.2.2.keep fun g e => k g (mem_foot.2 (.inr (.inr (.inr e))))⟩
theorem DevAt.mod {L : List Nat} (h : DevAt w q D) (k : Mod L w w') (hn : ∀ j ∈ q.foot, j ∉ L) : DevAt w' q D :=
  h.keep fun j hj => k.block j (h.foot_lt j hj) (hn j hj)
theorem DevAt.mod0 (h : DevAt w q D) (k : Mod [] w w') : DevAt w' q D := h.mod k (by simp)

/-- its own block is written anew -/
theorem DevAt.poke {q' : Pl} {D' : DevS} (h : DevAt w q D) (hp : q'.p = q.p) (hb : q'.b = q.b) (hs : q'.sv = q.sv) (hf : q'.fv = q.fv) (e1 : D'.sure = D.sure) (e2 : D'.cache = D.cache) (e3 : D'.falls = D.falls)
    (k : ∀ j, j ≠ q.p → w'.heap[j]? = w.heap[j]?) (hh : w'.heap[q.p]? = some (.cells #[q.sv, .map (some q.b), .int .i64 D'.steps, q.fv, .bool D'.off] 58 (0, 0))) : DevAt w' q' D' := by
  obtain ⟨p', b', sv', fv'⟩ := q'
  dsimp only at hp hb hs hf
  subst hp; subst hb; subst hs; subst hf
  refine ⟨hh, ?_, ?_, ?_⟩
  · rw [e1]; exact h.2.1.keep fun g e => k g (fun e' => h.ps (by rw [e, e']))
  · rw [e2]; exact h.2.2.1.keep (k _ (fun e' => h.pb e'.symm))
  · rw [e3]; exact h.2.2.2.keep fun g e => k g (fun e' => h.pf (by rw [e, e']))
theorem DevAt.setSteps (h : DevAt w q D) (n : Nat) (u : Value) (hu : u = .int .i64 n) : DevAt (w.setCell ⟨q.p, 2, none⟩ u) q { D with steps := n } := by
  subst hu
  refine h.poke rfl rfl rfl rfl rfl rfl rfl (fun j hj => heap_setCell_other w ⟨q.p, 2, none⟩ j _ (fun e => hj (by simp [e]))) ?_
  rw [heap_setCell_same w q.p 2 _ _ _ h.1]
  simp
theorem DevAt.setOff (h : DevAt w q D) (b : Bool) : DevAt (w.setCell ⟨q.p, 4, none⟩ (.bool b)) q { D with off := b } := by
  refine h.poke rfl rfl rfl rfl rfl rfl rfl (fun j hj => heap_setCell_other w ⟨q.p, 4, none⟩ j _ (fun e => hj (by simp [e]))) ?_
  rw [heap_setCell_same w q.p 4 _ _ _ h.1]
  simp
theorem DevAt.setSure (h : DevAt w q D) {g n cap : Nat} (hs : q.sv = .slice (some ⟨g, 0, none⟩) n cap) (j : Nat) (s : ByteArray) (u : Value) (hu : u = .string s) : DevAt (w.setCell ⟨g, j, none⟩ u) q { D with sure := D.sure.set j s } := by
  have hob : q.sv.ownBlock = some g := by rw [hs]; rfl
  have k : ∀ i, i ≠ g → (w.setCell ⟨g, j, none⟩ u).heap[i]? = w.heap[i]? := fun i hi => heap_setCell_other w ⟨g, j, none⟩ i _ (fun e => hi (by simp [e]))
  refine ⟨(k _ (fun e => h.ps (by rw [hob, e]))).trans h.1, ?_, h.2.2.1.keep (k _ (fun e => h.bs (by rw [hob, e]))), h.2.2.2.keep fun i e => k i (fun e' => h.sf hob (by rw [e, e']))⟩
  have h2 := h.2.1
  rw [hs] at h2 ⊢
  exact h2.set Value.string (fun _ => rfl) j s u hu
theorem DevAt.setCache (h : DevAt w q D) {m : List (Int × ByteArray)} (k : But w w' q.b) (hM : MapAt w' q.b .i64 Value.string m) : DevAt w' q { D with cache := m } :=
  ⟨(k.block h.pb).trans h.1, h.2.1.keep fun i e => k.block (fun e' => h.bs (by rw [e, e'])), hM, h.2.2.2.keep fun i e => k.block (fun e' => h.bf (by rw [e, e']))⟩
end

theorem off_nil (w : World) : Calls Try.prog 18 #[.pointer none] w fun e w' => e = .returned (.bool true) ∧ w' = w := by
  go_enter Try.func18, Try.ntmps18
  go_wp2
  go_ret
  exact ⟨rfl, rfl⟩
theorem off_calls (q : Pl) (D : DevS) (w : World) (h : DevAt w q D) : Calls Try.prog 18 #[.pointer (some ⟨q.p, 0, none⟩)] w fun e w' => e = .returned (.bool D.off) ∧ w' = w := by
  have c4 := h.c4
  clear h
  go_enter Try.func18, Try.ntmps18
  go_wp2
  go_ret
  exact ⟨rfl, rfl⟩
theorem len_nil (w : World) : Calls Try.prog 20 #[.pointer none] w fun e w' => e = .returned (.int .i64 0) ∧ w' = w := by
  go_enter Try.func20, Try.ntmps20
  go_wp2
  go_ret
  exact ⟨rfl, rfl⟩
theorem len_calls (q : Pl) (D : DevS) (w : World) (h : DevAt w q D) : Calls Try.prog 20 #[.pointer (some ⟨q.p, 0, none⟩)] w fun e w' => e = .returned (.int .i64 D.sure.length) ∧ w' = w := by
  obtain ⟨A, cap, e, _⟩ := h.2.1.form
  have c0 := h.c0
  rw [e] at c0
  clear h
  go_enter Try.func20, Try.ntmps20
  go_wp2
  go_ret
  exact ⟨rfl, rfl⟩
theorem steps_nil (w : World) : Calls Try.prog 21 #[.pointer none] w fun e w' => e = .returned (.int .i64 0) ∧ w' = w := by
  go_enter Try.func21, Try.ntmps21
  go_wp2
  go_ret
  exact ⟨rfl, rfl⟩
theorem steps_calls (q : Pl) (D : DevS) (w : World) (h : DevAt w q D) : Calls Try.prog 21 #[.pointer (some ⟨q.p, 0, none⟩)] w fun e w' => e = .returned (.int .i64 D.steps) ∧ w' = w := by
  have c2 := h.c2
  clear h
  go_enter Try.func21, Try.ntmps21
  go_wp2
  go_ret
  exact ⟨rfl, rfl⟩
theorem loose_nil (w : World) : Calls Try.prog 22 #[.pointer none] w fun e w' => e = .returned (.int .i64 0) ∧ w' = w := by
  go_enter Try.func22, Try.ntmps22
  go_wp2
  go_ret
  exact ⟨rfl, rfl⟩
set_option maxRecDepth 100000 in
theorem loose_calls (q : Pl) (D : DevS) (w : World) (h : DevAt w q D) : Calls Try.prog 22 #[.pointer (some ⟨q.p, 0, none⟩)] w fun e w' => e = .returned (.int .i64 D.cache.length) ∧ w' = w := by
  have c1 := h.c1
  have HM := hid h.2.2.1
  clear h
  go_enter Try.func22, Try.ntmps22
  go_wp2_with (first | (at_len; refine wpList_len_at rfl _ _ rfl Try.underlying56 HM.out rfl ?_))
  go_ret
  exact ⟨rfl, rfl⟩
theorem up_nil (w : World) : Calls Try.prog 19 #[.pointer none] w fun e w' => e = .returned (.bool false) ∧ w' = w := by
  go_enter Try.func19, Try.ntmps19
  go_wp2
  go_ret
  exact ⟨rfl, rfl⟩
theorem up_calls (q : Pl) (D : DevS) (w : World) (h : DevAt w q D) : Calls Try.prog 19 #[.pointer (some ⟨q.p, 0, none⟩)] w fun e w' => e = .returned (.bool D.off) ∧ DevAt w' q { D with off := false } ∧ Mod [q.p] w w' := by
  have c4 := h.c4
  have f4 := h.free 4
  have HD := hid h
  have hne := h.lt
  clear h
  obtain ⟨sure, cache, steps, falls, off⟩ := D
  dsimp only at c4
  cases off with
  | true =>
    go_enter Try.func19, Try.ntmps19
    go_wp2
    go_ret
    exact ⟨rfl, HD.out.setOff false, (Mod.refl _ _).setCell (fun _ => by simp) _⟩
  | false =>
    go_enter Try.func19, Try.ntmps19
    go_wp2
    go_ret
    exact ⟨rfl, HD.out, Mod.refl _ _⟩
end Go.Proofs.Ytpknhgimcabfcaa.Dv
