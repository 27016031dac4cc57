/-
  A STEP OF A DEVICE; WRITE, READ, FLUSH.
  Condition: at most one loss of power is planned.
-/
import Derived.Test.YtpknhgimcabfcaaDvE
namespace Go.Proofs.Ytpknhgimcabfcaa.Dv
open Go.RowKit Go.Proofs.Om Go.Proofs.Ytpknhgimcabfcaa.Srt Go.Proofs.Ytpknhgimcabfcaa.Keys

def DevS.step (D : DevS) : DevS × Int :=
  match D.falls with
  | [] => ({ D with steps := D.steps + 1 }, 0)
  | f :: _ => if f.at' == (D.steps : Int) then (({ D with falls := [] } : DevS).crash f.keep f.torn, 7) else ({ D with steps := D.steps + 1 }, 0)

def Pl.withF (q : Pl) (v : Value) : Pl := { q with fv := v }
theorem foot_withF {q : Pl} {v : Value} (h : v.ownBlock = q.fv.ownBlock) : (q.withF v).foot = q.foot := by
  unfold Pl.foot Pl.withF
  rw [h]

/-- its plan is laid anew -/
theorem DevAt.setF {w w' : World} {q : Pl} {D : DevS} (h : DevAt w q D) {v : Value} {l : List Fl} (k : ∀ j, j ≠ q.p → q.fv.ownBlock ≠ some j → j < w.heap.size → w'.heap[j]? = w.heap[j]?)
    (hp : w'.heap[q.p]? = some (.cells #[q.sv, .map (some q.b), .int .i64 D.steps, v, .bool D.off] 58 (0, 0))) (hf : OwnL w' 0 40 3 cellsF v l) : DevAt w' (q.withF v) { D with falls := l } :=
  ⟨hp, h.2.1.keep fun g e => k g (fun e' => h.ps (by rw [e, e'])) (h.sf e) (h.2.1.block e).2.1, h.2.2.1.keep (k _ (fun e' => h.pb e'.symm) h.bf h.2.2.1.lt), hf⟩

set_option maxRecDepth 100000 in
set_option maxHeartbeats 1000000 in
theorem step_calls (q : Pl) (D : DevS) (w : World) (h : DevAt w q D) (hok : D.Ok) (hf : D.falls.length ≤ 1) (hs : D.steps < 4611686018427387904) :
    Calls Try.prog 33 #[.pointer (some ⟨q.p, 0, none⟩)] w fun e w' => e = .returned (.int .i64 D.step.2) ∧ ∃ v, v.ownBlock = q.fv.ownBlock ∧ DevAt w' (q.withF v) D.step.1 ∧ Mod q.foot w w' := by
  have hpl := h.lt
  have HD := hid h
  clear h
  obtain ⟨sure, cache, steps, falls, off⟩ := D
  have hm1 : ∀ o, Mod [] w (w.alloc o) := fun o => (Mod.refl _ _).alloc _
  have HD1 : ∀ o, Hid (DevAt (w.alloc o) q ⟨sure, cache, steps, falls, off⟩) := fun o => hid (HD.out.mod0 (hm1 o))
  have c2 := fun o => (HD1 o).out.c2
  have c3 := fun o => (HD1 o).out.c3
  have f2 := fun o => (HD1 o).out.free 2
  dsimp only at c2 hs
  have hB : (w.alloc (.cells #[.pointer (some ⟨q.p, 0, none⟩)] 23)).cell? ⟨w.heap.size, 0, none⟩ = some (.pointer (some ⟨q.p, 0, none⟩)) := World.cell?_alloc_new _ _ _ _
  match falls, hf with
  | [], _ =>
    obtain ⟨A, cap, e, _⟩ := HD.out.2.2.2.form
    dsimp only [List.length_nil] at e
    rw [e] at c3
    have hst : DevS.step ⟨sure, cache, steps, [], off⟩ = (⟨sure, cache, steps + 1, [], off⟩, 0) := rfl
    rw [hst]
    go_enter Try.func33, Try.ntmps33
    go_wp2_with (first | (go_at_call 46; refine (index_none _ _ _ _).mono ?_; rintro e w1 ⟨rfl, rfl⟩))
    go_ret
    refine ⟨rfl, q.fv, rfl, ?_, ?_⟩
    · exact (HD.out.setSteps (steps + 1) (.int .i64 ((steps : Int) + 1)) (by simp)).mod0 ((Mod.refl _ _).alloc _)
    · exact ((Mod.refl _ _).setCell (fun _ => mem_foot.2 (.inl rfl)) _).alloc _
  | [f], _ =>
    obtain ⟨g, cap, e, _, h0⟩ := HD.out.2.2.2.cell (fun _ => rfl) (j := 0) (x := f) rfl (i := 0) (u := .int .i64 f.at') rfl
    have h1 := hid ((HD.out.2.2.2).cell (fun _ => rfl) (j := 0) (x := f) rfl (i := 1) (u := .int .u64 f.keep) rfl)
    have h2 := hid ((HD.out.2.2.2).cell (fun _ => rfl) (j := 0) (x := f) rfl (i := 2) (u := .int .i64 f.torn) rfl)
    obtain ⟨g1, cap1, e1, _, h1⟩ := h1.out
    obtain ⟨g2, cap2, e2, _, h2⟩ := h2.out
    rw [e] at e1 e2
    cases e1; cases e2
    rw [Nat.zero_mul, Nat.zero_add] at h0 h1 h2
    dsimp only [List.length_cons, List.length_nil, Nat.zero_add] at e
    rw [e] at c3
    have hx := HD.out.2.2.2
    dsimp only at hx
    rw [e] at hx
    have hgp : g ≠ q.p := fun e' => HD.out.pf (by rw [e, e']; rfl)
    rcases hx.2 with ⟨h', _⟩ | ⟨g', cap', cur, h', _, hcur, hcl, _, hcs, _⟩
    · cases h'
    · cases h'
      have HC := hid hcur
      have hgl := (Array.getElem?_eq_some_iff.1 hcur).1
      clear hcur hx
      have g0 := fun o => (World.cell?_alloc_lt w o ⟨g, 0, none⟩ hgl).trans h0
      have g1 := fun o => (World.cell?_alloc_lt w o ⟨g, 1, none⟩ hgl).trans h1
      have g2 := fun o => (World.cell?_alloc_lt w o ⟨g, 2, none⟩ hgl).trans h2
      have HI := hid (fun o => index_one q _ f w.heap.size g cap _ (HD1 o).out)
      cases hb : (f.at' == (steps : Int)) with
      | false =>
        have hst : DevS.step ⟨sure, cache, steps, [f], off⟩ = (⟨sure, cache, steps + 1, [f], off⟩, 0) := by
          unfold DevS.step
          dsimp only
          rw [hb]
          rfl
        rw [hst]
        have HB := hid hb
        clear hb
        go_enter Try.func33, Try.ntmps33
        go_wp2_with (first | (go_at_call 46; have hi := HI.out _ hB (g0 _) (g1 _) (g2 _); dsimp only at hi; rw [HB.out, if_neg (by decide)] at hi; refine hi.mono ?_; rintro e w1 ⟨rfl, hm⟩; have HM := hid (((hm1 _).trans hm)); have k2 := (HD.out.mod0 HM.out).c2; have l2 := (HD.out.mod0 HM.out).free 2; have kB := hm.cell0 hB; clear hi hm; dsimp only at k2))
        go_ret
        refine ⟨rfl, q.fv, rfl, ?_, ?_⟩
        · exact (HD.out.mod0 HM.out).setSteps (steps + 1) (.int .i64 ((steps : Int) + 1)) (by simp)
        · exact (HM.out.mono (by simp)).setCell (fun _ => mem_foot.2 (.inl rfl)) _
      | true =>
        have hst : DevS.step ⟨sure, cache, steps, [f], off⟩ = ((⟨sure, cache, steps, [], off⟩ : DevS).crash f.keep f.torn, 7) := by
          unfold DevS.step
          dsimp only
          rw [hb]
          rfl
        rw [hst]
        have HB := hid hb
        clear hb
        have hc1 : 1 ≤ cap := by simpa using hcl
        have hcap : cap ≤ maxLen := by assumption
        go_enter Try.func33, Try.ntmps33
        go_wp2_with (first | (go_at_call 46; have hi := HI.out _ hB (g0 _) (g1 _) (g2 _); dsimp only at hi; rw [HB.out, if_pos rfl] at hi; refine hi.mono ?_; rintro e w1 ⟨rfl, hm⟩; have HM := hid (((hm1 _).trans hm)); have k3 := (HD.out.mod0 HM.out).c3; have kB := hm.cell0 hB; have j0 := hm.cell0 (g0 _); have j1 := hm.cell0 (g1 _); have j2 := hm.cell0 (g2 _); clear hi hm; rw [e] at k3; have kBl := World.block_lt_of_cell? w1 _ kB; have kpl := World.block_lt_of_cell? w1 _ k3; have kB' := fun o => (World.cell?_alloc_lt w1 o ⟨w.heap.size, 0, none⟩ kBl).trans kB; have k3' := fun o => (World.cell?_alloc_lt w1 o ⟨q.p, 3, none⟩ kpl).trans k3))
        have hH : ∀ o, (w1.alloc o).heap[g]? = some (.cells cur 40 (0, 0)) := fun o => (((Mod.refl [] w1).alloc o).heap (HM.out.heap HC.out (by simp)) (by simp))
        have hk0 : ∀ o j, j < w.heap.size → (w1.alloc o).heap[j]? = w.heap[j]? := fun o j hj => (HM.out.alloc o).block j hj (by simp)
        have hpf : ∀ o i, (w1.alloc o).frozen? ⟨q.p, i, none⟩ = false := fun o i => ((HD.out.mod0 HM.out).mod0 ((Mod.refl [] w1).alloc o)).free i
        have hgne : w1.heap.size ≠ g := by have := HM.out.size; omega
        have hgB : w.heap.size ≠ g := by omega
        have hpW : q.p ≠ w1.heap.size := by omega
        go_region_with (go_at_call 48; go_must (rw [show IntKind.i64.wrap 1 = 1 from rfl]; refine (delete_one g cap cur hc1 (w1.alloc _).drew (hH _) hcs).mono ?_); rintro e' w2 ⟨rfl, ⟨cur', hk', hs'⟩, hm2⟩; have mB := (hm2.cell (p := ⟨w.heap.size, 0, none⟩) (by simp; omega) (by simpa using hgB)).trans (kB' _); have m3 := (hm2.cell (p := ⟨q.p, 3, none⟩) (by simp; omega) (by simpa using hgp.symm)).trans (k3' _); have mf := (hm2.frozen (p := ⟨q.p, 3, none⟩) (by simp; omega) (by simpa using hgp.symm)).trans (hpf _ 3); have n1 := (hm2.cell (p := ⟨w1.heap.size, 1, none⟩) (by simp) (by simpa using hgne)).trans (World.cell?_alloc_new w1 _ _ 1); have n2 := (hm2.cell (p := ⟨w1.heap.size, 2, none⟩) (by simp) (by simpa using hgne)).trans (World.cell?_alloc_new w1 _ _ 2); have HK := hid hk'; have HM2 := hid hm2; clear hk' hm2)
        all_goals
          have hfg : q.fv.ownBlock = some g := by rw [e]; rfl
          have hfo : (Value.slice (some ⟨g, 0, none⟩) 0 cap).ownBlock = q.fv.ownBlock := by rw [e]; rfl
          have hft : (q.withF (.slice (some ⟨g, 0, none⟩) 0 cap)).foot = q.foot := foot_withF hfo
          have hwp : w2.heap[q.p]? = some (.cells #[q.sv, .map (some q.b), .int .i64 (steps : Int), q.fv, .bool off] 58 (0, 0)) :=
            (HM2.out.block q.p (by have := HM.out.size; simp; omega) (by simpa using hgp.symm)).trans ((hk0 _ q.p hpl).trans HD.out.1)
          have HD3 := hid (show DevAt (w2.setCell ⟨q.p, 3, none⟩ (.slice (some ⟨g, 0, none⟩) 0 cap)) (q.withF (.slice (some ⟨g, 0, none⟩) 0 cap)) ⟨sure, cache, steps, [], off⟩ from
            HD.out.setF (fun j h1 h2 h3 => (heap_setCell_other w2 ⟨q.p, 3, none⟩ j _ (fun e => h1 (by simp [e]))).trans ((HM2.out.block j (by have := HM.out.size; simp; omega) (by simp; intro e3; exact h2 (by rw [hfg, e3]))).trans (hk0 _ j h3)))
              (by rw [heap_setCell_same w2 q.p 3 _ _ _ hwp]; simp)
              ⟨by simp, .inr ⟨g, cap, cur', rfl, Nat.zero_le _, (heap_setCell_other w2 ⟨q.p, 3, none⟩ g _ (fun e => hgp (by simp [e]))).trans HK.out, Nat.zero_le _, hcap, hs', by simp⟩⟩)
          have HM3 := hid (show Mod q.foot w (w2.setCell ⟨q.p, 3, none⟩ (.slice (some ⟨g, 0, none⟩) 0 cap)) from
            (((HM.out.alloc _).drew.mono (by simp)).trans (HM2.out.mono (fun j hj => by simp at hj; subst hj; exact mem_foot.2 (.inr (.inr (.inr hfg)))))).setCell (fun _ => mem_foot.2 (.inl rfl)) _)
          have hokx : DevS.Ok ⟨sure, cache, steps, [], off⟩ := ⟨hok.sure, hok.at', hok.few⟩
          have HC3 := hid (crash_calls _ _ f.keep f.torn _ HD3.out hokx)
          rw [hft] at HC3
          clear hwp
          go_wp2_with (first | (go_at_call 11; refine HC3.out.mono ?_; rintro e3 w4 ⟨rfl, hd4, hm4⟩; have HD4 := hid hd4; have HM4 := hid (HM3.out.trans hm4); clear hd4 hm4))
          go_ret
          exact ⟨rfl, _, hfo, HD4.out, HM4.out⟩
end Go.Proofs.Ytpknhgimcabfcaa.Dv
