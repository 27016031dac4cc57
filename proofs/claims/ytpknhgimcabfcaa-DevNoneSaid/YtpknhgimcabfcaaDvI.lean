/-
  A DEVICE IS COPIED; ITS LOSSES OF POWER ARE PLANNED.
  No condition.
-/
import Derived.Test.YtpknhgimcabfcaaDvH
import Derived.Laws.Externs
import Derived.Shelf.SlMaps.Clone
namespace Go.Proofs.Ytpknhgimcabfcaa.Dv
open Go.RowKit Go.Proofs.Om Go.Proofs.Ytpknhgimcabfcaa.Srt Go.Proofs.Ytpknhgimcabfcaa.Keys

theorem OwnL.news {α : Type} {w : World} {lo g n cap s : Nat} {t : TypeId} {f : α → List Value} {l : List α} (h : OwnL w lo t s f (.slice (some ⟨g, 0, none⟩) n cap) l) : ∀ j u, (l.flatMap f)[j]? = some u → w.cell? ⟨g, j, none⟩ = some u := fun j u hu => by
  rcases h.2 with ⟨h', _⟩ | ⟨g', cap', cur, h', h1, h2, h3, h4, h5, h6⟩
  · cases h'
  · cases h'
    rw [← h6, List.getElem?_take] at hu
    split at hu
    · simpa [World.cell?, h2] using hu
    · cases hu
theorem OwnL.of_row {α : Type} {w : World} {lo s n : Nat} {t : TypeId} {f : α → List Value} {v : Value} {l : List α} (h : w.ownsRow lo t s v (0 + n) ([] ++ l.flatMap f)) (hn : n = l.length) : OwnL w lo t s f v l := by
  subst hn
  unfold OwnL
  simpa using h

theorem infoF : (Try.prog.info? 40).map (fun i => (i.zero, i.size, i.bytes)) = some (some (.agg #[.int .i64 0, .int .u64 0, .int .i64 0]), 3, 24) := by kernel_rfl
theorem cellsF_len (f : Fl) : (cellsF f).length = 3 := rfl

set_option maxHeartbeats 1000000 in
theorem cloneF_calls (lo : Nat) (v : Value) (l : List Fl) (w : World) (h : OwnL w lo 40 3 cellsF v l) (hl : l.length ≤ 1099511627776) :
    Calls Try.prog 30 #[v] w fun e w' => ∃ v', e = .returned v' ∧ OwnL w' w.heap.size 40 3 cellsF v' l ∧ Mod [] w w' := by
  obtain ⟨i0, hi, hz0, hz1, hz2⟩ := info_parts infoF
  have hq0 : ∀ w : World, (binOp BinOp.eql 47 (.slice none 0 0) (.slice none 0 0)).run Try.prog w = .ok (.bool true) w := fun _ => by kernel_rfl
  have hq1 : ∀ (w : World) (a : Addr) (n c : Nat), (binOp BinOp.eql 47 (.slice (some a) n c) (.slice none 0 0)).run Try.prog w = .ok (.bool false) w := fun _ _ _ _ => by kernel_rfl
  have HO := hid h
  have hx := h
  rcases h.2 with ⟨rfl, h0⟩ | ⟨g, cap, cur, rfl, _⟩
  · have hln : l = [] := List.eq_nil_of_length_eq_zero h0
    subst hln
    clear h hx
    go_enter Try.func30, Try.ntmps30
    go_wp2
    go_ret
    exact ⟨_, rfl, OwnL.nil _ _ _ _ _, Mod.refl _ _⟩
  · have hfl : (l.flatMap cellsF).length = l.length * 3 := flat_length cellsF_len l
    have HN := hid (fun (o : Obj) => OwnL.news (HO.out.mod0 ((Mod.refl [] w).alloc o)))
    have HE := hid (show (w.alloc (.cells #[] 40)).ownsRow w.heap.size 40 3 (.slice (some ⟨w.heap.size, 0, none⟩) 0 0) 0 [] from
      OwnL.empty (f := cellsF) (s := 3) (t := 40) (w := w.alloc (.cells #[] 40)) (Nat.le_refl _) (MapKept.heap_alloc w (.cells #[] 40)).1)
    clear h hx
    go_enter Try.func30, Try.ntmps30
    go_wp2_with (first
      | (at_builtin; refine wpList_append_own _ rfl _ _ 47 rfl w.heap.size 40 i0 _ 3 24 Try.underlying47 hi hz0 hz1 hz2 rfl (by decide) _ 0 [] rfl HE.out ⟨g, 0, none⟩ l.length cap (l.flatMap cellsF) rfl hfl (fun j u hu => by rw [Addr.add_lit, Nat.zero_add]; exact (HN.out _) j u hu) (fun u hu => by obtain ⟨f, _, hm⟩ := List.mem_flatMap.1 hu; simp [cellsF] at hm; rcases hm with rfl | rfl | rfl <;> rfl) (by unfold maxLen; omega) (by omega) (by simp) ?_; intro v' w2 ho2 hg2 _; have HO2 := hid ho2; have HG2 := hid hg2; clear ho2 hg2))
    go_ret
    exact ⟨v', rfl, OwnL.of_row HO2.out rfl, ((Mod.refl [] w).alloc _).grown HG2.out (fun g' e hg => by cases e; exact absurd hg (Nat.lt_irrefl _))⟩
theorem cellsS_len (f : ByteArray) : (cellsS f).length = 1 := rfl
set_option maxHeartbeats 1000000 in
theorem cloneS_calls (lo : Nat) (v : Value) (l : List ByteArray) (w : World) (h : OwnL w lo 9 1 cellsS v l) (hl : l.length ≤ 1099511627776) :
    Calls Try.prog 31 #[v] w fun e w' => ∃ v', e = .returned v' ∧ OwnL w' w.heap.size 9 1 cellsS v' l ∧ Mod [] w w' := by
  obtain ⟨i0, hi, hz0, hz1, hz2⟩ := info_parts infoS
  have hq0 : ∀ w : World, (binOp BinOp.eql 27 (.slice none 0 0) (.slice none 0 0)).run Try.prog w = .ok (.bool true) w := fun _ => by kernel_rfl
  have hq1 : ∀ (w : World) (a : Addr) (n c : Nat), (binOp BinOp.eql 27 (.slice (some a) n c) (.slice none 0 0)).run Try.prog w = .ok (.bool false) w := fun _ _ _ _ => by kernel_rfl
  have HO := hid h
  have hx := h
  rcases h.2 with ⟨rfl, h0⟩ | ⟨g, cap, cur, rfl, _⟩
  · have hln : l = [] := List.eq_nil_of_length_eq_zero h0
    subst hln
    clear h hx
    go_enter Try.func31, Try.ntmps31
    go_wp2
    go_ret
    exact ⟨_, rfl, OwnL.nil _ _ _ _ _, Mod.refl _ _⟩
  · have hfl : (l.flatMap cellsS).length = l.length * 1 := flat_length cellsS_len l
    have HN := hid (fun (o : Obj) => OwnL.news (HO.out.mod0 ((Mod.refl [] w).alloc o)))
    have HE := hid (show (w.alloc (.cells #[] 9)).ownsRow w.heap.size 9 1 (.slice (some ⟨w.heap.size, 0, none⟩) 0 0) 0 [] from
      OwnL.empty (f := cellsS) (s := 1) (t := 9) (w := w.alloc (.cells #[] 9)) (Nat.le_refl _) (MapKept.heap_alloc w (.cells #[] 9)).1)
    clear h hx
    go_enter Try.func31, Try.ntmps31
    go_wp2_with (first
      | (at_builtin; refine wpList_append_own _ rfl _ _ 27 rfl w.heap.size 9 i0 _ 1 16 Try.underlying27 hi hz0 hz1 hz2 rfl (by decide) _ 0 [] rfl HE.out ⟨g, 0, none⟩ l.length cap (l.flatMap cellsS) rfl hfl (fun j u hu => by rw [Addr.add_lit, Nat.zero_add]; exact (HN.out _) j u hu) (fun u hu => by obtain ⟨f, _, hm⟩ := List.mem_flatMap.1 hu; simp [cellsS] at hm; subst hm; rfl) (by unfold maxLen; omega) (by omega) (by simp) ?_; intro v' w2 ho2 hg2 _; have HO2 := hid ho2; have HG2 := hid hg2; clear ho2 hg2))
    go_ret
    exact ⟨v', rfl, OwnL.of_row HO2.out rfl, ((Mod.refl [] w).alloc _).grown HG2.out (fun g' e hg => by cases e; exact absurd hg (Nat.lt_irrefl _))⟩

set_option maxRecDepth 100000 in
theorem cloneM_calls (b : Nat) (m : List (Int × ByteArray)) (w : World) (h : MapAt w b .i64 Value.string m) :
    Calls Try.prog 32 #[.map (some b)] w fun e w' => ∃ b', e = .returned (.map (some b')) ∧ MapAt w' b' .i64 Value.string m ∧ w.heap.size ≤ b' ∧ Mod [] w w' := by
  obtain ⟨es, clock, h1, h2⟩ := h
  have hq := fun w => run_eql_map_nil_sl (P := Try.prog) w 56 _ _ (some b) Try.underlying56
  go_enter Try.func32, Try.ntmps32
  go_wp2
  rw [run_callFunc_extern Try.func45 (by kernel_rfl) (by kernel_rfl) (by kernel_rfl) (e := Extern.MapsClone.clone) (by kernel_rfl), run_maps_clone_sl w 56 h1]
  simp only [Result.andThen]
  rw [Oper.upon_value]
  go_wp2
  rw [run_typeAssert_map_sl _ 56 20 _ _ _ Try.underlying56]
  simp only [Result.andThen]
  rw [Oper.upon_value]
  go_wp2
  go_ret
  exact ⟨_, rfl, ⟨es, clock, (MapKept.heap_alloc w _).1, h2⟩, Nat.le_refl _, (Mod.refl _ _).alloc _⟩
end Go.Proofs.Ytpknhgimcabfcaa.Dv
