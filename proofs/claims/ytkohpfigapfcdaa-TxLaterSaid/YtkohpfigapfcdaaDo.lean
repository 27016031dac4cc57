/-
  RECORDS BEHIND CHANGES, as the reference has them: what Do makes.
  No condition but that the lists are not too long for any machine.
-/
import Derived.Test.YtkohpfigapfcdaaTxC
import Derived.Deep.RegionHeld3
namespace Go.Proofs.Ytkohpfigapfcdaa.Tx
open Go.RowKit Go.Proofs.Om

def doGo (c : Ch) : Bool → List Bd → List Bd
  | inn, [] => if inn then [] else [⟨c.id, c.s⟩]
  | inn, b :: r => (if !inn && decide (c.id ≤ b.id) then [⟨c.id, c.s⟩] else []) ++ (if b.id != c.id then [b] else []) ++ doGo c (inn || decide (c.id ≤ b.id)) r
def doL (l : List Bd) (cs : List Ch) : List Bd := cs.foldl (fun l c => doGo c c.gone l) l

def cellsB (b : Bd) : List Value := [.int .u64 b.id, .string b.s]
theorem cellsB_len (b : Bd) : (cellsB b).length = 2 := rfl
theorem infoB : (Try.prog.info? 48).map (fun i => (i.zero, i.size, i.bytes)) = some (some (.agg #[.int .u64 0, .string ⟨#[]⟩]), 2, 24) := by kernel_rfl

theorem doGo_len (c : Ch) : ∀ (inn : Bool) (l : List Bd), (doGo c inn l).length ≤ l.length + 1
  | inn, [] => by unfold doGo; split <;> simp
  | inn, b :: r => by
    have h := doGo_len c (inn || decide (c.id ≤ b.id)) r
    have h2 : ∀ r : List Bd, (doGo c true r).length ≤ r.length := by
      intro r
      induction r with
      | nil => simp [doGo]
      | cons b r ih => unfold doGo; simp; split <;> simp <;> omega
    unfold doGo
    by_cases hc : (!inn && decide (c.id ≤ b.id)) = true
    · have : (inn || decide (c.id ≤ b.id)) = true := by simp at hc; simp [hc.2]
      rw [if_pos hc, this]
      have := h2 r
      simp only [List.length_append, List.length_cons, List.length_nil]
      split <;> simp <;> omega
    · rw [if_neg hc]
      simp only [List.length_append, List.length_cons, List.length_nil]
      split <;> simp <;> omega

theorem cellsB_one (c : Bd) : ∀ u ∈ cellsB c, u.oneCell' = true := by
  intro u hu
  simp [cellsB] at hu
  rcases hu with rfl | rfl <;> rfl
theorem cellB_new (X X' : World) (T : TypeId) (c : Bd) (b : Nat) (e : X'.heap = (X.alloc (.cells #[.int .u64 c.id, .string c.s] T)).heap) (hb : b = X.heap.size) : ∀ i u, (cellsB c)[i]? = some u → X'.cell? ⟨b, i, none⟩ = some u := by
  intro i u hu
  subst hb
  have : X'.cell? ⟨X.heap.size, i, none⟩ = (X.alloc (.cells #[.int .u64 c.id, .string c.s] T)).cell? ⟨X.heap.size, i, none⟩ := by simp only [World.cell?, e]
  rw [this, World.cell?_alloc_new]
  simpa [cellsB] using hu
theorem bodies_of_own {w : World} {lo : Nat} {A : Option Addr} {n c : Nat} {l : List Bd} (h : OwnL w lo 48 2 cellsB (.slice A n c) l) : BodiesAt w A l := fun j x hx => by
  obtain ⟨g, cap, e, _, h0⟩ := h.cell cellsB_len hx (i := 0) (u := .int .u64 x.id) rfl
  obtain ⟨g', cap', e', _, h1⟩ := h.cell cellsB_len hx (i := 1) (u := .string x.s) rfl
  cases e; cases e'
  exact ⟨g, 0, rfl, by simpa using h0, by simpa using h1⟩

theorem doL_len : ∀ (cs : List Ch) (l : List Bd), (doL l cs).length ≤ l.length + cs.length
  | [], l => by simp [doL]
  | c :: cs, l => by
    have h1 := doL_len cs (doGo c c.gone l)
    have h2 := doGo_len c c.gone l
    have e : doL l (c :: cs) = doL (doGo c c.gone l) cs := rfl
    rw [e, List.length_cons]
    omega
theorem doGo_drop (c : Ch) (inn : Bool) (l : List Bd) (j : Nat) (b : Bd) (h : l[j]? = some b) :
    doGo c inn (l.drop j) = (if !inn && decide (c.id ≤ b.id) then [⟨c.id, c.s⟩] else []) ++ (if b.id != c.id then [b] else []) ++ doGo c (inn || decide (c.id ≤ b.id)) (l.drop (j + 1)) := by
  obtain ⟨hk, rfl⟩ := List.getElem?_eq_some_iff.1 h
  rw [List.drop_eq_getElem_cons hk]
  rfl

set_option maxRecDepth 100000 in
set_option maxHeartbeats 4000000 in
theorem do_calls (A B : Option Addr) (ca cb : Nat) (l : List Bd) (cs : List Ch) (w : World) (hA : BodiesAt w A l) (hB : ChsAt w B cs) (hl : l.length + cs.length ≤ 1099511627776) :
    Calls Try.prog 9 #[.slice A l.length ca, .slice B cs.length cb] w fun e w' => ∃ A' c', e = .returned (.slice A' (doL l cs).length c') ∧ BodiesAt w' A' (doL l cs) ∧ Mod [] w w' := by
  have HA := hid hA
  have HB := hid hB
  clear hA hB
  go_enter Try.func9, Try.ntmps9
  go_wp2
  go_loopw [0, 5] (fun vl vi wr => ∃ (k : Nat) (A' : Option Addr) (c' : Nat), k ≤ cs.length ∧ vi = .int .i64 k ∧ vl = .slice A' (doL l (cs.take k)).length c' ∧ Hid (BodiesAt wr A' (doL l (cs.take k)) ∧ Mod [] w wr)) (fun _ vi _ => cs.length - (intOf vi).toNat)
  case atStart => exact ⟨0, A, ca, by omega, rfl, rfl, hid ⟨HA.out, Mod.refl _ _⟩⟩
  case round =>
    obtain ⟨k, A', c', hk, rfl, rfl, HR⟩ := hrel
    by_cases hlt : k < cs.length
    · have hck : cs[k]? = some cs[k] := List.getElem?_eq_getElem hlt
      obtain ⟨gb, o, rfl, h0, h1, h2⟩ := (HB.out.mod0 HR.out.2) k cs[k] hck
      have hts : doL l (cs.take (k + 1)) = doGo cs[k] cs[k].gone (doL l (cs.take k)) := by
        rw [List.take_succ_eq_append_getElem hlt]
        unfold doL
        rw [List.foldl_append]
        rfl
      generalize cs[k] = c at *
      have HS := hid hts
      clear hts hck
      obtain ⟨id, s, gone⟩ := c
      dsimp only at h0 h1 h2 HS
      have hLl : (doL l (cs.take k)).length ≤ 1099511627776 := Nat.le_trans (doL_len _ _) (by simp; omega)
      generalize doL l (cs.take k) = L at *
      obtain ⟨wo, rfl⟩ : ∃ wo : World, wo = wr := ⟨_, rfl⟩
      have k2 : ∀ o' : Obj, (wo.alloc o').cell? ⟨gb, o + k * 3 + 2, none⟩ = some (.bool gone) := fun o' => ((Mod.refl [] wo).alloc o').cell0 h2
      go_wp2
      go_region
      have HS0 := hid HR.out
      go_wp2_with fail
      go_loopw [6, 7, 8] (fun vo vf vj wi => ∃ (j : Nat) (acc : List Bd) (inn : Bool), j ≤ L.length ∧ vj = .int .i64 j ∧ vf = .bool inn ∧ Hid (OwnL wi wo.heap.size 48 2 cellsB vo acc ∧ Mod [] wo wi ∧ acc ++ doGo ⟨id, s, gone⟩ inn (L.drop j) = doGo ⟨id, s, gone⟩ gone L ∧ acc.length ≤ 2 * j)) (fun _ _ vj _ => L.length - (intOf vj).toNat)
      case atStart => exact ⟨0, [], false || gone, by omega, rfl, by simp, hid ⟨(OwnL.empty (Nat.le_refl _) (MapKept.heap_alloc wo _).1).same (by rfl), ((Mod.refl [] wo).alloc _).drew, by simp, by simp⟩⟩
      case round =>
        obtain ⟨j, acc, inn, hj, rfl, rfl, HI⟩ := hrel
        by_cases hjl : j < L.length
        · have hLj : L[j]? = some L[j] := List.getElem?_eq_getElem hjl
          have hd := doGo_drop ⟨id, s, gone⟩ inn L j L[j] hLj
          obtain ⟨lb, lo, rfl, b0, b1⟩ := HR.out.1 j L[j] hLj
          generalize L[j] = x at *
          obtain ⟨bid, bs⟩ := x
          dsimp only at hd b0 b1
          have HD := hid hd
          clear hd hLj
          obtain ⟨i1, i2, i3, i4⟩ := HI.out
          have HO := hid i1
          have HM := hid i2
          have HE := hid i3
          have H4 := hid i4
          have c0 := i2.cell0 h0
          have c1 := i2.cell0 h1
          have d0 := i2.cell0 b0
          have d1 := i2.cell0 b1
          clear i1 i2 i3 i4
          have lgb : gb < wo.heap.size := World.block_lt_of_cell? _ _ h0
          have HOn := fun (n : Nat) (o' : Obj) => hid ((HO.out.same (w' := wr.drewN n) rfl).mod0 ((Mod.refl [] _).alloc o'))
          have HMn := fun (n : Nat) (o' : Obj) => hid ((HM.out.drewN n).alloc o')
          by_cases hne : bid = id
          · have hn : (bid != id) = false := by simpa using hne
            have hle : decide (id ≤ bid) = true := by simp; omega
            cases inn with
            | true =>
              go_wp2
              go_quiet (fail)
              go_wp2
              go_quiet (fail)
              go_wp2
              go_roundw
              case rel => exact ⟨j + 1, _, true, by omega, by go_num, rfl, hid ⟨HO.out.same (by rfl), HM.out.same (by rfl) (by rfl) (by rfl) (by rfl), by rw [← HE.out, HD.out]; simp [hn, hle], by have := H4.out; simp at this ⊢; omega⟩⟩
              case measure => simp [intOf]; omega
            | false =>
              have ag : u6.ownBlock ≠ some gb := fun e => by have h := (HO.out.block e).1; omega
              have eg0 := World.new_ne wr _ c0
              have hlo : wo.heap.size ≤ wr.heap.size := HM.out.size
              go_wp2
              go_quiet (fail)
              go_wp2
              go_region_held3 (fun w' => w'.cell? ⟨gb, o + k * 3, none⟩ = some (.int .u64 id) ∧ w'.cell? ⟨gb, o + k * 3 + 1, none⟩ = some (.string s))
                (first | go_keep | (go_split_ands; refine ⟨?_, ?_⟩ <;> (rw [hgrow.cell_far _ (by first | omega | (simp; omega)) (Ne.symm ag)]; assumption)))
                ((refine step_append_one (by rfl) _ _ _ (by rfl) 48 _ 24 Try.underlying23 infoB rfl (by decide) cellsB_len _ (by rfl) ((HO.out.mod0 ((Mod.refl [] _).alloc _)).same (by rfl)) ⟨id, s⟩ _ (by rfl) (cellB_new _ _ _ ⟨id, s⟩ _ (by rfl) (by simp)) (cellsB_one _) (by have := H4.out; omega) (by have := H4.out; omega) (by simp; omega) ?_; rintro v1 w2 ho hgrow ⟨g1, cap1, rfl⟩))
              have HO1 := hid ho
              have HM1 := hid (Mod.appended (L := []) ((HM.out.alloc _).same (by rfl) (by rfl) (by rfl) (by rfl)) ((HO.out.mod0 ((Mod.refl [] _).alloc _)).same (by rfl)) (Nat.le_refl _) hgrow)
              clear ho hgrow
              have HO1n := fun (n : Nat) (o' : Obj) => hid ((HO1.out.same (w' := w2.drewN n) rfl).mod0 ((Mod.refl [] _).alloc o'))
              have HM1n := fun (n : Nat) (o' : Obj) => hid ((HM1.out.drewN n).alloc o')
              have c0' := HM1.out.cell0 h0
              have c1' := HM1.out.cell0 h1
              have d0' := HM1.out.cell0 b0
              have d1' := HM1.out.cell0 b1
              have H1 : Hid ((acc ++ [(⟨id, s⟩ : Bd)]).length ≤ 2 * j + 1) := hid (by have := H4.out; simp; omega)
              go_wp2
              go_quiet (fail)
              go_wp2
              go_roundw
              case rel => exact ⟨j + 1, _, true, by omega, by go_num, rfl, hid ⟨HO1.out.same (by rfl), HM1.out.same (by rfl) (by rfl) (by rfl) (by rfl), by rw [← HE.out, HD.out]; simp [hn, hle], by have := H1.out; simp at this ⊢; omega⟩⟩
              case measure => simp [intOf]; omega
          · have hn : (bid != id) = true := by simpa using hne
            cases inn with
            | true =>
              go_wp2
              go_quiet (fail)
              go_wp2
              go_quiet (fail)
              go_wp2_with (first
                | (at_builtin; go_must (refine wpList_append_one rfl _ _ _ rfl 48 _ 24 Try.underlying23 infoB rfl (by decide) cellsB_len _ rfl (HOn _ _).out ⟨bid, bs⟩ _ rfl (cellB_new _ _ _ ⟨bid, bs⟩ _ (by rfl) (by simp)) (cellsB_one _) (by have := H4.out; omega) (by have := H4.out; omega) (by have := HM.out.size; simp at this ⊢; omega) ?_); rintro v' w3 ho hg ⟨g', cap', rfl⟩; have HO2 := hid ho; have HM2 := hid ((HMn _ _).out.appended (HOn _ _).out (Nat.le_refl _) hg); clear ho hg))
              go_roundw
              case rel => exact ⟨j + 1, _, true, by omega, by go_num, rfl, hid ⟨HO2.out, HM2.out, by rw [← HE.out, HD.out]; simp [hn], by have := H4.out; simp at this ⊢; omega⟩⟩
              case measure => simp [intOf]; omega
            | false =>
              by_cases hl2 : id ≤ bid
              · have hle : decide (id ≤ bid) = true := by simpa using hl2
                clear hl2
                have ag : u6.ownBlock ≠ some gb := fun e => by have h := (HO.out.block e).1; omega
                have eg0 := World.new_ne wr _ c0
                have hlo : wo.heap.size ≤ wr.heap.size := HM.out.size
                go_wp2
                go_quiet (fail)
                go_wp2
                go_region_held3 (fun w' => w'.cell? ⟨gb, o + k * 3, none⟩ = some (.int .u64 id) ∧ w'.cell? ⟨gb, o + k * 3 + 1, none⟩ = some (.string s))
                  (first | go_keep | (go_split_ands; refine ⟨?_, ?_⟩ <;> (rw [hgrow.cell_far _ (by first | omega | (simp; omega)) (Ne.symm ag)]; assumption)))
                  ((refine step_append_one (by rfl) _ _ _ (by rfl) 48 _ 24 Try.underlying23 infoB rfl (by decide) cellsB_len _ (by rfl) ((HO.out.mod0 ((Mod.refl [] _).alloc _)).same (by rfl)) ⟨id, s⟩ _ (by rfl) (cellB_new _ _ _ ⟨id, s⟩ _ (by rfl) (by simp)) (cellsB_one _) (by have := H4.out; omega) (by have := H4.out; omega) (by simp; omega) ?_; rintro v1 w2 ho hgrow ⟨g1, cap1, rfl⟩))
                have HO1 := hid ho
                have HM1 := hid (Mod.appended (L := []) ((HM.out.alloc _).same (by rfl) (by rfl) (by rfl) (by rfl)) ((HO.out.mod0 ((Mod.refl [] _).alloc _)).same (by rfl)) (Nat.le_refl _) hgrow)
                clear ho hgrow
                have HO1n := fun (n : Nat) (o' : Obj) => hid ((HO1.out.same (w' := w2.drewN n) rfl).mod0 ((Mod.refl [] _).alloc o'))
                have HM1n := fun (n : Nat) (o' : Obj) => hid ((HM1.out.drewN n).alloc o')
                have c0' := HM1.out.cell0 h0
                have c1' := HM1.out.cell0 h1
                have d0' := HM1.out.cell0 b0
                have d1' := HM1.out.cell0 b1
                have H1 : Hid ((acc ++ [(⟨id, s⟩ : Bd)]).length ≤ 2 * j + 1) := hid (by have := H4.out; simp; omega)
                go_wp2
                go_quiet (fail)
                go_wp2_with (first
                  | (at_builtin; refine wpList_append_one rfl _ _ _ rfl 48 _ 24 Try.underlying23 infoB rfl (by decide) cellsB_len _ rfl (HO1n _ _).out ⟨bid, bs⟩ _ rfl (cellB_new _ _ _ ⟨bid, bs⟩ _ (by rfl) (by simp)) (cellsB_one _) (by have := H1.out; omega) (by have := H1.out; omega) (by have := HM1.out.size; simp at this ⊢; omega) ?_; rintro v' w3 ho hg ⟨g', cap', rfl⟩; have HO2 := hid ho; have HM2 := hid ((HM1n _ _).out.appended (HO1n _ _).out (Nat.le_refl _) hg); clear ho hg))
                go_roundw
                case rel => exact ⟨j + 1, acc ++ [⟨id, s⟩] ++ [⟨bid, bs⟩], true, by omega, by go_num, rfl, hid ⟨by simpa using HO2.out, HM2.out, by rw [← HE.out, HD.out]; simp [hn, hle], by have := H1.out; simp at this ⊢; omega⟩⟩
                case measure => simp [intOf]; omega
              · have hle : decide (id ≤ bid) = false := by simpa using hl2
                clear hl2
                go_wp2
                go_quiet (fail)
                go_wp2
                go_quiet (fail)
                go_wp2_with (first
                  | (at_builtin; refine wpList_append_one rfl _ _ _ rfl 48 _ 24 Try.underlying23 infoB rfl (by decide) cellsB_len _ rfl (HOn _ _).out ⟨bid, bs⟩ _ rfl (cellB_new _ _ _ ⟨bid, bs⟩ _ (by rfl) (by simp)) (cellsB_one _) (by have := H4.out; omega) (by have := H4.out; omega) (by have := HM.out.size; simp at this ⊢; omega) ?_; rintro v' w3 ho hg ⟨g', cap', rfl⟩; have HO2 := hid ho; have HM2 := hid ((HMn _ _).out.appended (HOn _ _).out (Nat.le_refl _) hg); clear ho hg))
                go_roundw
                case rel => exact ⟨j + 1, _, false, by omega, by go_num, rfl, hid ⟨HO2.out, HM2.out, by rw [← HE.out, HD.out]; simp [hn, hle], by have := H4.out; simp at this ⊢; omega⟩⟩
                case measure => simp [intOf]; omega
        · obtain ⟨i1, i2, i3, i4⟩ := HI.out
          have hjL : j = L.length := by omega
          rw [hjL, List.drop_length] at i3
          have HO := hid i1
          have HM := hid i2
          have HE := hid i3
          have H4 := hid i4
          have c0 := i2.cell0 h0
          have c1 := i2.cell0 h1
          have lgb : gb < wo.heap.size := World.block_lt_of_cell? _ _ h0
          obtain ⟨A6, c6, rfl, _⟩ := i1.form
          clear i1 i2 i3 i4
          cases inn with
          | true =>
            have e : doL l (cs.take (k + 1)) = acc := by rw [HS.out, ← HE.out]; simp [doGo]
            have hE := hid e
            clear e
            go_wp2
            go_roundw
            case rel => exact ⟨k + 1, A6, c6, by omega, by go_num, by rw [hE.out], hid ⟨by rw [hE.out]; exact bodies_of_own HO.out, HR.out.2.trans HM.out⟩⟩
            case measure => simp [intOf]; omega
          | false =>
            have e : doL l (cs.take (k + 1)) = acc ++ [⟨id, s⟩] := by rw [HS.out, ← HE.out]; simp [doGo]
            have hE := hid e
            clear e
            have ag : (Value.slice A6 acc.length c6).ownBlock ≠ some gb := fun e => by have h := (HO.out.block e).1; omega
            have eg0 := World.new_ne wr _ c0
            have hlo : wo.heap.size ≤ wr.heap.size := HM.out.size
            go_wp2
            go_region_held3 (fun w' => w'.cell? ⟨gb, o + k * 3, none⟩ = some (.int .u64 id) ∧ w'.cell? ⟨gb, o + k * 3 + 1, none⟩ = some (.string s))
              (first | go_keep | (go_split_ands; refine ⟨?_, ?_⟩ <;> (rw [hgrow.cell_far _ (by first | omega | (simp; omega)) (Ne.symm ag)]; assumption)))
              ((refine step_append_one (by rfl) _ _ _ (by rfl) 48 _ 24 Try.underlying23 infoB rfl (by decide) cellsB_len _ (by rfl) ((HO.out.mod0 ((Mod.refl [] _).alloc _)).same (by rfl)) ⟨id, s⟩ _ (by rfl) (cellB_new _ _ _ ⟨id, s⟩ _ (by rfl) (by simp)) (cellsB_one _) (by have := H4.out; omega) (by have := H4.out; omega) (by simp; omega) ?_; rintro v1 w2 ho hgrow ⟨g1, cap1, rfl⟩))
            have HO1 := hid ho
            have HM1 := hid (Mod.appended (L := []) ((HM.out.alloc _).same (by rfl) (by rfl) (by rfl) (by rfl)) ((HO.out.mod0 ((Mod.refl [] _).alloc _)).same (by rfl)) (Nat.le_refl _) hgrow)
            clear ho hgrow
            go_wp2
            go_roundw
            case rel => exact ⟨k + 1, some ⟨g1, 0, none⟩, cap1, by omega, by go_num, by rw [hE.out]; simp, hid ⟨by rw [hE.out]; exact bodies_of_own HO1.out, HR.out.2.trans HM1.out⟩⟩
            case measure => simp [intOf]; omega
    · have hkl : k = cs.length := by omega
      subst hkl
      rw [List.take_length] at HR
      simp only [List.take_length]
      go_wp2
      go_ret
      exact ⟨_, _, rfl, HR.out.1, HR.out.2⟩
end Go.Proofs.Ytkohpfigapfcdaa.Tx
