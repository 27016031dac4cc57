/-
  A DEVICE IS COPIED; ITS LOSSES OF POWER ARE PLANNED.
  No condition.
-/
import Derived.Test.YtpknhgimcabfcaaDvI
import Derived.Deep.RegionHeld3
namespace Go.Proofs.Ytpknhgimcabfcaa.Dv
open Go.RowKit Go.Proofs.Om Go.Proofs.Ytpknhgimcabfcaa.Srt Go.Proofs.Ytpknhgimcabfcaa.Keys

theorem copy_nil (w : World) : Calls Try.prog 14 #[.pointer none] w fun e w' => e = .returned (.pointer none) ∧ w' = w := by
  go_enter Try.func14, Try.ntmps14
  go_wp2
  go_ret
  exact ⟨rfl, rfl⟩
theorem plan_nil (A : Option Addr) (n c : Nat) (w : World) : Calls Try.prog 12 #[.pointer none, .slice A n c] w fun e w' => e = .returned (.tuple #[]) ∧ w' = w := by
  go_enter Try.func12, Try.ntmps12
  go_wp2
  go_end0
  exact ⟨rfl, rfl⟩

set_option maxRecDepth 100000 in
set_option maxHeartbeats 1000000 in
theorem copy_calls (q : Pl) (D : DevS) (w : World) (h : DevAt w q D) (h1 : D.sure.length ≤ 1099511627776) (h2 : D.falls.length ≤ 1099511627776) :
    Calls Try.prog 14 #[.pointer (some ⟨q.p, 0, none⟩)] w fun e w' => ∃ q', e = .returned (.pointer (some ⟨q'.p, 0, none⟩)) ∧ DevAt w' q' D ∧ (∀ j ∈ q'.foot, w.heap.size ≤ j) ∧ Mod [] w w' := by
  have HD := hid h
  have c0 := h.c0
  have c1 := h.c1
  have c2 := h.c2
  have c3 := h.c3
  have c4 := h.c4
  have hlt := h.lt
  obtain ⟨As, cs, es, _⟩ := h.2.1.form
  obtain ⟨Af, cf, ef, _⟩ := h.2.2.2.form
  rw [es] at c0
  rw [ef] at c3
  clear h
  go_enter Try.func14, Try.ntmps14
  go_wp2_with fail
  have HDa := fun o => hid (show DevAt (w.alloc o).drew q D from (HD.out.mod0 (((Mod.refl [] w).alloc o).drew)))
  have k0 := fun o => (World.cell?_alloc_lt w o ⟨q.p, 0, none⟩ hlt).trans c0
  have k1 := fun o => (World.cell?_alloc_lt w o ⟨q.p, 1, none⟩ hlt).trans c1
  have k3 := fun o => (World.cell?_alloc_lt w o ⟨q.p, 3, none⟩ hlt).trans c3
  have hN0 : (w.alloc (.cells #[.slice As D.sure.length cs, .map (some q.b), .int .i64 D.steps, .slice Af D.falls.length cf, .bool D.off] 58)).drew.heap[w.heap.size]? = some (.cells #[.slice As D.sure.length cs, .map (some q.b), .int .i64 D.steps, .slice Af D.falls.length cf, .bool D.off] 58 (0, 0)) := (MapKept.heap_alloc w _).1
  have hpw : q.p ≠ w.heap.size := by omega
  have hpw' : w.heap.size ≠ q.p := by omega
  go_region_held3 (fun wx => wx.cell? ⟨q.p, 0, none⟩ = some (.slice As D.sure.length cs) ∧ wx.cell? ⟨q.p, 1, none⟩ = some (.map (some q.b)) ∧ wx.cell? ⟨q.p, 3, none⟩ = some (.slice Af D.falls.length cf))
    (first | (refine ⟨?_, ?_, ?_⟩ <;> assumption) | go_keep)
    ((first
    | (go_at_call 31; refine (cloneS_calls 0 _ D.sure (w.alloc _).drew (by rw [← es]; exact (HDa _).out.2.1) h1).mono ?_; rintro e w2 ⟨v2, rfl, hv2, hm2⟩; have HD2 := hid ((HDa _).out.mod0 hm2); have HM2 := hid hm2; have HV2 := hid hv2; have d0 := HD2.out.c0; rw [es] at d0; have d1 := HD2.out.c1; have d3 := HD2.out.c3; rw [ef] at d3; clear hm2 hv2)
    | (go_at_call 32; refine (cloneM_calls q.b D.cache _ HD2.out.2.2.1).mono ?_; rintro e w3 ⟨b3, rfl, hv3, hb3, hm3⟩; have HD3 := hid (HD2.out.mod0 hm3); have HM3 := hid hm3; have HV3 := hid hv3; have HB3 := hid hb3; have e0 := HD3.out.c0; rw [es] at e0; have e1 := HD3.out.c1; have e3 := HD3.out.c3; rw [ef] at e3; clear hm3 hv3 hb3)
    | (go_at_call 30; go_must (refine (cloneF_calls 0 _ D.falls w3 (by rw [← ef]; exact HD3.out.2.2.2) h2).mono ?_); rintro e w4 ⟨v4, rfl, hv4, hm4⟩; have HV4 := hid hv4; have HM4 := hid hm4; have HD4 := hid (HD3.out.mod0 hm4); have l0 := HD4.out.c0; rw [es] at l0; have l1 := HD4.out.c1; have l3 := HD4.out.c3; rw [ef] at l3; go_must (have hn := (hm4.heap (HM3.out.heap (HM2.out.heap hN0 (by simp)) (by simp)) (by simp))); go_must (have n0 : w4.cell? ⟨w.heap.size, 0, none⟩ = some (.slice As D.sure.length cs) := (by simp [World.cell?, hn]); have n1 : w4.cell? ⟨w.heap.size, 1, none⟩ = some (.map (some q.b)) := (by simp [World.cell?, hn]); have n3 : w4.cell? ⟨w.heap.size, 3, none⟩ = some (.slice Af D.falls.length cf) := (by simp [World.cell?, hn]); have nf : ∀ i, w4.frozen? ⟨w.heap.size, i, none⟩ = false := fun i => (by simp [World.frozen?, hn]); have nf0 := nf 0; have nf1 := nf 1; have nf3 := nf 3; have HN := hid hn; clear hn hv4 hm4 nf; obtain ⟨A2, p2, ev2, _⟩ := HV2.out.form; obtain ⟨A4, p4, ev4, _⟩ := HV4.out.form; subst ev2; subst ev4))))
  all_goals
    go_wp2
    go_ret
    have s2 : w.heap.size + 1 ≤ w2.heap.size := by have := HM2.out.size; simpa using this
    have s3 := HM3.out.size
    have s4 := HM4.out.size
    have hb3 := HB3.out
    have x1 := heap_setCell_same w4 w.heap.size 0 _ _ (.slice A2 D.sure.length p2) HN.out
    have x2 := heap_setCell_same _ w.heap.size 1 _ _ (.map (some b3)) x1
    have x3 := heap_setCell_same _ w.heap.size 3 _ _ (.slice A4 D.falls.length p4) x2
    have hk : ∀ j, j ≠ w.heap.size → (((w4.setCell ⟨w.heap.size, 0, none⟩ (.slice A2 D.sure.length p2)).setCell ⟨w.heap.size, 1, none⟩ (.map (some b3))).setCell ⟨w.heap.size, 3, none⟩ (.slice A4 D.falls.length p4)).heap[j]? = w4.heap[j]? := fun j hj =>
      (heap_setCell_other _ ⟨w.heap.size, 3, none⟩ j _ (fun e => hj (by rw [e]))).trans ((heap_setCell_other _ ⟨w.heap.size, 1, none⟩ j _ (fun e => hj (by rw [e]))).trans (heap_setCell_other _ ⟨w.heap.size, 0, none⟩ j _ (fun e => hj (by rw [e]))))
    have v2 : ∀ g, (Value.slice A2 D.sure.length p2).ownBlock = some g → w.heap.size + 1 ≤ g := fun g hg => by have := (HV2.out.block hg).1; simpa using this
    have v4 : ∀ g, (Value.slice A4 D.falls.length p4).ownBlock = some g → w3.heap.size ≤ g := fun g hg => (HV4.out.block hg).1
    refine ⟨⟨w.heap.size, b3, .slice A2 D.sure.length p2, .slice A4 D.falls.length p4⟩, rfl, ⟨by rw [x3]; simp, ?_, ?_, ?_⟩, ?_, ?_⟩
    · exact (((HV2.out.mod0 HM3.out).mod0 HM4.out).lower (Nat.zero_le _)).keep fun g hg => hk g (by have := v2 g hg; omega)
    · exact (HM4.out.mapAt HV3.out (by simp)).keep (hk _ (by omega))
    · exact (HV4.out.lower (Nat.zero_le _)).keep fun g hg => hk g (by have := v4 g hg; omega)
    · intro j hj
      rcases mem_foot.1 hj with e | e | e | e
      · dsimp only at e; omega
      · dsimp only at e; omega
      · have := v2 j e; omega
      · have := v4 j e; omega
    · exact ((((((((Mod.refl [] w).alloc _).drew).trans HM2.out).trans HM3.out).trans HM4.out).setCell (fun h => absurd h (Nat.lt_irrefl _)) _).setCell (fun h => absurd h (Nat.lt_irrefl _)) _).setCell (fun h => absurd h (Nat.lt_irrefl _)) _
end Go.Proofs.Ytpknhgimcabfcaa.Dv
