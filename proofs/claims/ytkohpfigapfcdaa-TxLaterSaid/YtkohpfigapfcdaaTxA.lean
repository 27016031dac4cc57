/-
  WHAT THE METHODS OF A TRANSACTION DO, call by call.
  No condition.
-/
import Derived.Test.YtkohpfigapfcdaaOMapWalk
import Derived.Test.YtkohpfigapfcdaaTxF
import Derived.Deep.RegionWith
import Derived.BigQuiet
import Derived.Deep.QuietTactic
namespace Go.Proofs.Ytkohpfigapfcdaa.Tx
open Go.RowKit Go.Proofs.Om

structure Ch where
  id : Int
  s : ByteArray
  gone : Bool
def encC (c : Ch) : Value := .agg #[.int .u64 c.id, .string c.s, .bool c.gone]

/-- a transaction at block p: its getter, its map's block, what this holds -/
def TxAt (w : World) (p : Nat) (base : Value) (b : Nat) (own : List (Int × Ch)) : Prop :=
  w.heap[p]? = some (.cells #[base, .map (some b)] 45 (0, 0)) ∧ MapAt w b .u64 encC own

theorem TxAt.c0 {w : World} {p b : Nat} {base : Value} {own : List (Int × Ch)} (h : TxAt w p base b own) : w.cell? ⟨p, 0, none⟩ = some base := by simp [World.cell?, h.1]
theorem TxAt.c1 {w : World} {p b : Nat} {base : Value} {own : List (Int × Ch)} (h : TxAt w p base b own) : w.cell? ⟨p, 1, none⟩ = some (.map (some b)) := by simp [World.cell?, h.1]
theorem TxAt.ne {w : World} {p b : Nat} {base : Value} {own : List (Int × Ch)} (h : TxAt w p base b own) : p ≠ b := by
  rintro rfl
  obtain ⟨h1, es, clock, h2, _⟩ := h
  rw [h1] at h2; cases h2
theorem TxAt.mod {w w' : World} {p b : Nat} {base : Value} {own : List (Int × Ch)} {l : List Nat} (h : TxAt w p base b own) (k : Mod l w w') (hp : p ∉ l) (hb : b ∉ l) : TxAt w' p base b own :=
  ⟨k.heap h.1 hp, k.mapAt h.2 hb⟩
theorem TxAt.upd {w w' : World} {p b : Nat} {base : Value} {own own' : List (Int × Ch)} (h : TxAt w p base b own) (k : But w w' b) (hM : MapAt w' b .u64 encC own') : TxAt w' p base b own' :=
  ⟨(k.block h.ne).trans h.1, hM⟩

theorem put_calls (p b : Nat) (base : Value) (own : List (Int × Ch)) (id : Int) (s : ByteArray) (w : World) (h : TxAt w p base b own) :
    Calls Try.prog 13 #[.pointer (some ⟨p, 0, none⟩), .int .u64 id, .string s] w fun e w' => e = .returned (.tuple #[]) ∧ TxAt w' p base b (put id ⟨id, s, false⟩ own) ∧ But w w' b := by
  have c1 := h.c1
  have H := hid h
  clear h
  go_enter Try.func13, Try.ntmps13
  go_wp2_with (first
    | (at_mapUpdate; refine wpList_store_at rfl _ _ _ _ rfl Try.underlying43 Try.underlying29 H.out.2 rfl id rfl ⟨id, s, false⟩ rfl ?_; intro w1 hM hB))
  go_end0
  exact ⟨rfl, H.out.upd hB hM, hB⟩


theorem put_nil (id : Int) (s : ByteArray) (w : World) :
    Calls Try.prog 13 #[.pointer none, .int .u64 id, .string s] w fun e w' => e = .returned (.tuple #[]) ∧ w' = w := by
  go_enter Try.func13, Try.ntmps13
  go_wp2
  go_end0
  exact ⟨rfl, rfl⟩

theorem new_calls (base : Value) (w : World) (hb : base = .nilFunc ∨ ∃ f a c, base = .func f a c) :
    Calls Try.prog 6 #[base] w fun e w' => ∃ p b, e = .returned (.pointer (some ⟨p, 0, none⟩)) ∧ TxAt w' p base b [] ∧ w.heap.size ≤ p ∧ w.heap.size ≤ b ∧ Mod [] w w' := by
  have hmm := @run_makeMap Try.prog
  have fin : ∀ base : Value, ∃ p b, Ending.returned (.pointer (some ⟨w.heap.size + 1, 0, none⟩)) = .returned (.pointer (some ⟨p, 0, none⟩)) ∧ TxAt ((w.alloc (.map #[] 0)).alloc (.cells #[base, .map (some w.heap.size)] 45)) p base b [] ∧ w.heap.size ≤ p ∧ w.heap.size ≤ b ∧ Mod [] w ((w.alloc (.map #[] 0)).alloc (.cells #[base, .map (some w.heap.size)] 45)) := by
    intro base
    refine ⟨w.heap.size + 1, w.heap.size, rfl, ⟨?_, ?_⟩, by omega, by omega, ((Mod.refl _ _).alloc _).alloc _⟩
    · have := (MapKept.heap_alloc (w.alloc (.map #[] 0)) (.cells #[base, .map (some w.heap.size)] 45)).1
      simpa using this
    · exact (MapAt.made w).keep ((MapKept.heap_alloc _ _).2 _ (by simp))
  rcases hb with rfl | ⟨f, a, c, rfl⟩
  · have F := hid (fin .nilFunc)
    clear fin
    go_enter Try.func6, Try.ntmps6
    go_wp2
    go_ret
    exact F.out
  · have F := hid (fin (.func f a c))
    clear fin
    go_enter Try.func6, Try.ntmps6
    go_wp2
    go_ret
    exact F.out

/-- the getter of a list of records, as a value -/
def BaseAt (w : World) (base : Value) (recs : List Bd) : Prop :=
  (base = .nilFunc ∧ recs = []) ∨ ∃ g A c, base = .func (.func 17) #[] #[.pointer (some ⟨g, 0, none⟩)] ∧
    w.heap[g]? = some (.cells #[.slice A recs.length c] 23 (0, 0)) ∧ BodiesAt w A recs ∧ recs.length < 4611686018427387904

theorem BodiesAt.mod0 {w w' : World} {A : Option Addr} {l : List Bd} (h : BodiesAt w A l) (k : Mod [] w w') : BodiesAt w' A l := fun j x hx => by
  obtain ⟨b, o, h1, h2, h3⟩ := h j x hx
  exact ⟨b, o, h1, k.cell0 h2, k.cell0 h3⟩
theorem BodiesAt.modM {V : Type} {w w' : World} {b : Nat} {q : IntKind} {enc : V → Value} {m : List (Int × V)} {A : Option Addr} {l : List Bd} (h : BodiesAt w A l) (k : Mod [b] w w') (hM : MapAt w b q enc m) : BodiesAt w' A l := fun j x hx => by
  obtain ⟨b, o, h1, h2, h3⟩ := h j x hx
  exact ⟨b, o, h1, k.cellM hM h2, k.cellM hM h3⟩
theorem BaseAt.mod0 {w w' : World} {base : Value} {l : List Bd} (h : BaseAt w base l) (k : Mod [] w w') : BaseAt w' base l := by
  rcases h with h | ⟨g, A, c, h1, h2, h3, h4⟩
  · exact .inl h
  · exact .inr ⟨g, A, c, h1, k.heap h2 (by simp), h3.mod0 k, h4⟩
theorem BaseAt.modM {V : Type} {w w' : World} {b : Nat} {q : IntKind} {enc : V → Value} {m : List (Int × V)} {base : Value} {l : List Bd} (h : BaseAt w base l) (k : Mod [b] w w') (hM : MapAt w b q enc m) : BaseAt w' base l := by
  rcases h with h | ⟨g, A, c, h1, h2, h3, h4⟩
  · exact .inl h
  · exact .inr ⟨g, A, c, h1, k.heap h2 (by simpa using hM.ne_heap h2), h3.modM k hM, h4⟩

theorem getter_calls (A : Option Addr) (c : Nat) (l : List Bd) (w : World) (h : BodiesAt w A l) (hl : l.length < 4611686018427387904) :
    Calls Try.prog 7 #[.slice A l.length c] w fun e w' => ∃ v, e = .returned v ∧ BaseAt w' v l ∧ Mod [] w w' := by
  have H := hid h
  clear h
  go_enter Try.func7, Try.ntmps7
  go_wp2
  go_ret
  exact ⟨_, rfl, .inr ⟨_, A, c, rfl, (MapKept.heap_alloc _ _).1, H.out.mod0 ((Mod.refl _ _).alloc _), hl⟩, (Mod.refl _ _).alloc _⟩

theorem find1_calls (g : Nat) (A : Option Addr) (c : Nat) (l : List Bd) (id : Int) (w : World) (hg : w.heap[g]? = some (.cells #[.slice A l.length c] 23 (0, 0))) (h : BodiesAt w A l) (hl : l.length < 4611686018427387904) :
    Calls Try.prog 17 #[.int .u64 id, .pointer (some ⟨g, 0, none⟩)] w fun e w' => e = .returned (.tuple #[.string (find id l).1, .bool (find id l).2]) ∧ w' = w := by
  have H := hid h
  clear h
  have hc : w.cell? ⟨g, 0, none⟩ = some (.slice A l.length c) := by simp [World.cell?, hg]
  clear hg
  go_enter Try.func17, Try.ntmps17
  go_wp2_with (first | (go_at_call 18; refine (find_calls A c l id _ H.out hl).mono ?_; rintro e w' ⟨rfl, rfl⟩))
  go_ret2
  exact ⟨rfl, rfl⟩

theorem was_calls (p b : Nat) (base : Value) (own : List (Int × Ch)) (recs : List Bd) (id : Int) (w : World) (h : TxAt w p base b own) (hb : BaseAt w base recs) :
    Calls Try.prog 21 #[.pointer (some ⟨p, 0, none⟩), .int .u64 id] w fun e w' => e = .returned (.tuple #[.string (find id recs).1, .bool (find id recs).2]) ∧ w' = w := by
  have c0 := h.c0
  clear h
  have hnil : ∀ w : World, (binOp BinOp.eql 27 .nilFunc .nilFunc).run Try.prog w = .ok (.bool true) w := fun _ => by kernel_rfl
  have hsome : ∀ (w : World) (f : Fn) (a c : Array Value), (binOp BinOp.eql 27 (.func f a c) .nilFunc).run Try.prog w = .ok (.bool false) w := fun _ _ _ _ => by kernel_rfl
  rcases hb with ⟨rfl, rfl⟩ | ⟨g, A, c, rfl, h2, h3, h4⟩
  · go_enter Try.func21, Try.ntmps21
    go_wp2
    go_ret2
    exact ⟨rfl, rfl⟩
  · have H2 := hid h2
    have H3 := hid h3
    clear h2 h3
    go_enter Try.func21, Try.ntmps21
    go_wp2_with (first | (go_at_call 17; refine (find1_calls g A c recs id _ H2.out H3.out h4).mono ?_; rintro e w' ⟨rfl, rfl⟩))
    go_ret2
    exact ⟨rfl, rfl⟩


/-- what Get tells -/
def getR (id : Int) (own : List (Int × Ch)) (recs : List Bd) : ByteArray × Bool :=
  match get id own with
  | some c => (c.s, !c.gone)
  | none => find id recs

theorem zero_change (w : World) : (zeroValue 31).run Try.prog w = .ok (encC ⟨0, ⟨#[]⟩, false⟩) w := by kernel_rfl

theorem get_nil (id : Int) (w : World) :
    Calls Try.prog 14 #[.pointer none, .int .u64 id] w fun e w' => e = .returned (.tuple #[.string ⟨#[]⟩, .bool false]) ∧ w' = w := by
  go_enter Try.func14, Try.ntmps14
  go_wp2
  go_ret2
  exact ⟨rfl, rfl⟩

theorem get_calls (p b : Nat) (base : Value) (own : List (Int × Ch)) (recs : List Bd) (id : Int) (w : World) (h : TxAt w p base b own) (hb : BaseAt w base recs) :
    Calls Try.prog 14 #[.pointer (some ⟨p, 0, none⟩), .int .u64 id] w fun e w' => e = .returned (.tuple #[.string (getR id own recs).1, .bool (getR id own recs).2]) ∧ Mod [] w w' := by
  have c1 := h.c1
  cases hg : get id own with
  | some c =>
    have hr : getR id own recs = (c.s, !c.gone) := by simp [getR, hg]
    have H := hid h
    have HR := hid hr
    have HG := hid hg
    clear h hb hr hg
    obtain ⟨i, s, g⟩ := c
    go_enter Try.func14, Try.ntmps14
    go_wp2_with (first
      | (at_lookup; refine wpList_look_yes rfl _ _ _ rfl Try.underlying43 Try.underlying29 H.out.2 rfl id rfl _ HG.out ?_; unfold encC))
    go_quiet (fail)
    go_wp2
    go_ret2
    refine ⟨by rw [HR.out]; rfl, ?_⟩
    exact Mod.drewN ((Mod.refl _ _).alloc _) _
  | none =>
    have hr : getR id own recs = find id recs := by simp [getR, hg]
    have H := hid h
    have HB := hid hb
    have HR := hid hr
    have HG := hid hg
    clear h hb hr hg
    go_enter Try.func14, Try.ntmps14
    go_wp2_with (first
      | (at_lookup; refine wpList_look_no rfl _ _ _ rfl Try.underlying43 Try.underlying29 (zero_change _) H.out.2 rfl id rfl HG.out ?_; unfold encC)
      | (go_at_call 21; refine (was_calls p b base own recs id _ (H.out.mod ((Mod.refl [] _).alloc _) (by simp) (by simp)) (HB.out.mod0 ((Mod.refl [] _).alloc _))).mono ?_; rintro e w' ⟨rfl, rfl⟩))
    go_ret2
    refine ⟨by rw [HR.out]; rfl, ?_⟩
    exact (Mod.refl _ _).alloc _

end Go.Proofs.Ytkohpfigapfcdaa.Tx
