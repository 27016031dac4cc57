/-
  A STEP OF A DEVICE.
  Condition: at most one loss of power is planned.
-/
import Derived.Test.YtpknhgimcabfcaaDvD
import Derived.Laws.IdiomCopy
namespace Go.Proofs.Ytpknhgimcabfcaa.Dv
open Go.RowKit Go.Proofs.Om Go.Proofs.Ytpknhgimcabfcaa.Srt Go.Proofs.Ytpknhgimcabfcaa.Keys

def encF (f : Fl) : Value := .agg #[.int .i64 f.at', .int .u64 f.keep, .int .i64 f.torn]

theorem step1_calls (q : Pl) (D : DevS) (f : Fl) (B : Nat) (w : World) (h : DevAt w q D) (hB : w.cell? ⟨B, 0, none⟩ = some (.pointer (some ⟨q.p, 0, none⟩))) :
    Calls Try.prog 47 #[encF f, .pointer (some ⟨B, 0, none⟩)] w fun e w' => e = .returned (.bool (f.at' == D.steps)) ∧ Mod [] w w' := by
  have c2 := h.c2
  have hlt := h.lt
  have hBl : B < w.heap.size := World.block_lt_of_cell? w _ hB
  clear h
  unfold encF
  have d2 := fun o => (World.cell?_alloc_lt w o ⟨q.p, 2, none⟩ hlt).trans c2
  have dB := fun o => (World.cell?_alloc_lt w o ⟨B, 0, none⟩ hBl).trans hB
  go_enter Try.func47, Try.ntmps47
  go_wp2_with fail
  go_quiet (fail)
  go_wp2
  go_ret
  exact ⟨rfl, (((Mod.refl [] w).alloc _).drewN _)⟩

theorem index_none (A : Option Addr) (cap : Nat) (fn : Value) (w : World) :
    Calls Try.prog 46 #[.slice A 0 cap, fn] w fun e w' => e = .returned (.int .i64 (-1)) ∧ w' = w := by
  go_enter Try.func46, Try.ntmps46
  go_wp2_with fail
  refine wp_loop_once ?_
  go_wp2
  go_ret
  exact ⟨rfl, rfl⟩

set_option maxHeartbeats 400000 in
theorem index_one (q : Pl) (D : DevS) (f : Fl) (B g cap : Nat) (w : World) (h : DevAt w q D) (hB : w.cell? ⟨B, 0, none⟩ = some (.pointer (some ⟨q.p, 0, none⟩)))
    (h0 : w.cell? ⟨g, 0, none⟩ = some (.int .i64 f.at')) (h1 : w.cell? ⟨g, 1, none⟩ = some (.int .u64 f.keep)) (h2 : w.cell? ⟨g, 2, none⟩ = some (.int .i64 f.torn)) :
    Calls Try.prog 46 #[.slice (some ⟨g, 0, none⟩) 1 cap, .func (.func 47) #[] #[.pointer (some ⟨B, 0, none⟩)]] w fun e w' => e = .returned (.int .i64 (if f.at' == D.steps then 0 else -1)) ∧ Mod [] w w' := by
  have HD := hid h
  have HB := hid hB
  clear h hB
  cases hb : (f.at' == (D.steps : Int)) with
  | true =>
    have HE := hid hb
    clear hb
    rw [if_pos rfl]
    go_enter Try.func46, Try.ntmps46
    go_wp2_with fail
    refine wp_loop_once ?_
    go_wp2_with (first | (go_at_call 47; refine (step1_calls q D f B _ HD.out HB.out).mono ?_; rw [HE.out]; rintro e w1 ⟨rfl, hm⟩; have HM := hid hm; clear hm))
    go_ret
    exact ⟨rfl, HM.out⟩
  | false =>
    have HE := hid hb
    clear hb
    rw [if_neg (by decide)]
    go_enter Try.func46, Try.ntmps46
    go_wp2_with fail
    go_loopw [8] (fun vi wr => (vi = .int .i64 0 ∨ vi = .int .i64 1) ∧ Hid (Mod [] w wr)) (fun vi _ => 1 - (intOf vi).toNat)
    case atStart => exact ⟨.inl rfl, hid (Mod.refl _ _)⟩
    case round =>
      obtain ⟨rfl | rfl, HM⟩ := hrel
      · have d0 := HM.out.cell0 h0
        have d1 := HM.out.cell0 h1
        have d2 := HM.out.cell0 h2
        go_wp2_with (first | (go_at_call 47; refine (step1_calls q D f B _ (HD.out.mod0 HM.out) (HM.out.cell0 HB.out)).mono ?_; rw [HE.out]; rintro e w1 ⟨rfl, hm⟩; have HM1 := hid (HM.out.trans hm); clear hm))
        go_roundw
        case rel => exact ⟨.inr rfl, HM1⟩
        case measure => simp [intOf]
      · go_wp2
        go_ret
        exact ⟨rfl, HM.out⟩

/-- what is left of a place that is cleared -/
def wiped (w : World) (g : Nat) : World := w.setCells g 0 [.int .i64 0, .int .u64 0, .int .i64 0]
theorem clear_one (ty : TypeId) (w : World) (g c : Nat) (h0 : ∀ i, i < 3 → (w.cell? ⟨g, i, none⟩).isSome = true) (h1 : ∀ i, w.frozen? ⟨g, i, none⟩ = false) :
    (Builtin.clear_ #[47] ty #[.slice (some ⟨g, 0, none⟩) 1 c]).run Try.prog w = .ok (.tuple #[]) (wiped w g) := by
  have hs := run_storeCells_cells (P := Try.prog) g 0 [.int .i64 0, .int .u64 0, .int .i64 0] 0 w (fun j hj => by simpa using h0 j (by simpa using hj)) (fun j _ => by simpa using h1 j) (by simp [Value.oneCell'])
  have hz : (Builtin.zeroCells (Value.agg #[.int .i64 0, .int .u64 0, .int .i64 0]).cells 1).toList = [.int .i64 0, .int .u64 0, .int .i64 0] := by kernel_rfl
  simp [Builtin.clear_, run_underlying Try.underlying47, hz, hs, Result.andThen, wiped]
theorem wiped_heap (w : World) (g : Nat) (cur : Array Value) (h : w.heap[g]? = some (.cells cur 40 (0, 0))) : ∃ cur', (wiped w g).heap[g]? = some (.cells cur' 40 (0, 0)) ∧ cur'.size = cur.size := by
  have e : wiped w g = ((w.setCell ⟨g, 0, none⟩ (.int .i64 0)).setCell ⟨g, 1, none⟩ (.int .u64 0)).setCell ⟨g, 2, none⟩ (.int .i64 0) := rfl
  have h1 := heap_setCell_same w g 0 _ _ (.int .i64 0) h
  have h2 := heap_setCell_same _ g 1 _ _ (.int .u64 0) h1
  have h3 := heap_setCell_same _ g 2 _ _ (.int .i64 0) h2
  exact ⟨_, by rw [e]; exact h3, by simp⟩
theorem wiped_mod (w : World) (g : Nat) : Mod [g] w (wiped w g) :=
  (((Mod.refl [g] w).setCell (p := ⟨g, 0, none⟩) (fun _ => by simp) (.int .i64 0)).setCell (p := ⟨g, 1, none⟩) (fun _ => by simp) (.int .u64 0)).setCell (p := ⟨g, 2, none⟩) (fun _ => by simp) (.int .i64 0)

set_option maxRecDepth 100000 in
theorem delete_one (g cap : Nat) (cur : Array Value) (hc : 1 ≤ cap) (w : World) (h : w.heap[g]? = some (.cells cur 40 (0, 0))) (hs : cur.size = cap * 3) :
    Calls Try.prog 48 #[.slice (some ⟨g, 0, none⟩) 1 cap, .int .i64 0, .int .i64 1] w fun e w' => e = .returned (.slice (some ⟨g, 0, none⟩) 0 cap) ∧ (∃ cur', w'.heap[g]? = some (.cells cur' 40 (0, 0)) ∧ cur'.size = cap * 3) ∧ Mod [g] w w' := by
  go_enter Try.func48, Try.ntmps48
  go_wp2_with fail
  have hcur : ∃ u0 u1 u2, cur[0]? = some u0 ∧ cur[1]? = some u1 ∧ cur[2]? = some u2 := ⟨_, _, _, Array.getElem?_eq_getElem (by omega), Array.getElem?_eq_getElem (by omega), Array.getElem?_eq_getElem (by omega)⟩
  obtain ⟨u0, u1, u2, k0, k1, k2⟩ := hcur
  have c0 : w.cell? ⟨g, 0, none⟩ = some u0 := by simpa [World.cell?, h] using k0
  have c1 : w.cell? ⟨g, 1, none⟩ = some u1 := by simpa [World.cell?, h] using k1
  have c2 : w.cell? ⟨g, 2, none⟩ = some u2 := by simpa [World.cell?, h] using k2
  have f0 : ∀ i, w.frozen? ⟨g, i, none⟩ = false := fun i => by simp [World.frozen?, h]
  have e0 := f0 0
  have e1 := f0 1
  have e2 := f0 2
  have hh : ∀ i, i < 3 → (w.cell? ⟨g, i, none⟩).isSome = true := fun i hi => by
    match i, hi with
    | 0, _ => rw [c0]; rfl
    | 1, _ => rw [c1]; rfl
    | 2, _ => rw [c2]; rfl
  by_cases hc1 : cap = 1
  · subst hc1
    go_region
    have hcl := clear_one 0 w.drew g 1 hh f0
    go_wp2
    go_ret
    obtain ⟨cur', k1, k2⟩ := wiped_heap w.drew g cur h
    exact ⟨rfl, ⟨cur', k1, by rw [k2, hs]⟩, ((Mod.refl [g] w).drew).trans (wiped_mod w.drew g)⟩
  · go_region
    have hcl := clear_one 0 w.drew g cap hh f0
    go_wp2
    go_ret
    obtain ⟨cur', k1, k2⟩ := wiped_heap w.drew g cur h
    exact ⟨rfl, ⟨cur', k1, by rw [k2, hs]⟩, ((Mod.refl [g] w).drew).trans (wiped_mod w.drew g)⟩
end Go.Proofs.Ytpknhgimcabfcaa.Dv
