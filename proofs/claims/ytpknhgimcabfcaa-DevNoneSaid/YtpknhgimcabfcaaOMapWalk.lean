/-
  THE SAME MAPS AT THE OPERATIONS OF A WALK; and what a call may have changed: a list of blocks, and new ones.
  No condition.
-/
import Derived.Test.YtpknhgimcabfcaaOMap
import Derived.Maps.OwnSet
import Derived.Maps.OwnOps
import Derived.WalkLawsBesides
import Derived.WalkSpells
import Derived.Laws.EntriesVeiled
import Derived.Deep.Draws
namespace Go.Proofs.Om
open Go.RowKit
theorem hid {p : Prop} (h : p) : Hid p := h

/-- w' is w, but for the blocks of l and new ones. -/
structure Mod (l : List Nat) (w w' : World) : Prop where
  os : w'.os = w.os
  tape : w'.tape = w.tape
  output : w'.output = w.output
  size : w.heap.size ≤ w'.heap.size
  block : ∀ j, j < w.heap.size → j ∉ l → w'.heap[j]? = w.heap[j]?

section
variable {l l' : List Nat} {w w' w'' : World}
theorem Mod.refl (l : List Nat) (w : World) : Mod l w w := ⟨rfl, rfl, rfl, Nat.le_refl _, fun _ _ _ => rfl⟩
theorem Mod.trans (h : Mod l w w') (k : Mod l w' w'') : Mod l w w'' :=
  ⟨k.os.trans h.os, k.tape.trans h.tape, k.output.trans h.output, Nat.le_trans h.size k.size, fun j hj hl => (k.block j (Nat.lt_of_lt_of_le hj h.size) hl).trans (h.block j hj hl)⟩
/-- what is changed behind may lie among new blocks -/
theorem Mod.then (h : Mod l w w') (k : Mod l' w' w'') (hl : ∀ j ∈ l', j < w.heap.size → j ∈ l) : Mod l w w'' :=
  ⟨k.os.trans h.os, k.tape.trans h.tape, k.output.trans h.output, Nat.le_trans h.size k.size, fun j hj hn => (k.block j (Nat.lt_of_lt_of_le hj h.size) (fun x => hn (hl j x hj))).trans (h.block j hj hn)⟩
theorem Mod.mono (h : Mod l w w') (hl : ∀ j ∈ l, j ∈ l') : Mod l' w w' := ⟨h.os, h.tape, h.output, h.size, fun j hj hn => h.block j hj (fun x => hn (hl j x))⟩
theorem Mod.drew (h : Mod l w w') : Mod l w w'.drew := ⟨h.os, h.tape, h.output, h.size, h.block⟩
theorem Mod.same (h : Mod l w w') (eh : w''.heap = w'.heap) (eo : w''.os = w'.os) (et : w''.tape = w'.tape) (eu : w''.output = w'.output) : Mod l w w'' :=
  ⟨eo.trans h.os, et.trans h.tape, eu.trans h.output, by rw [eh]; exact h.size, fun j hj hn => by rw [eh]; exact h.block j hj hn⟩
theorem Mod.drewN (h : Mod l w w') (n : Nat) : Mod l w (w'.drewN n) := ⟨h.os, h.tape, h.output, h.size, h.block⟩
theorem Mod.alloc (h : Mod l w w') (o : Obj) : Mod l w (w'.alloc o) :=
  ⟨h.os, h.tape, h.output, Nat.le_trans h.size (by simp), fun j hj hn => (Below.heap_alloc w' o j (Nat.lt_of_lt_of_le hj h.size)).trans (h.block j hj hn)⟩
theorem Mod.setCell (h : Mod l w w') {p : Addr} (hp : p.block < w.heap.size → p.block ∈ l) (u : Value) : Mod l w (w'.setCell p u) :=
  ⟨h.os, h.tape, h.output, by simpa using h.size, fun j hj hn => (Below.heap_setCell w' p u j (by rintro rfl; exact hn (hp hj))).trans (h.block j hj hn)⟩
theorem Mod.but (h : Mod l w w') {b : Nat} (k : But w' w'' b) (hb : b < w.heap.size → b ∈ l) : Mod l w w'' :=
  ⟨k.os.trans h.os, k.tape.trans h.tape, k.output.trans h.output, by rw [k.size]; exact h.size, fun j hj hn => (k.block (by rintro rfl; exact hn (hb hj))).trans (h.block j hj hn)⟩
theorem Mod.of_below (h : Below w.heap.size w w') : Mod l w w' := ⟨h.os, h.tape, h.output, h.size, fun j hj _ => h.block j hj⟩
theorem Mod.below (h : Mod [] w w') : Below w.heap.size w w' := ⟨h.os, h.tape, h.output, h.size, fun j hj => h.block j hj (by simp)⟩
theorem Mod.grown {row : Option Nat} (h : Mod l w w') (k : w'.grownBy w'' row) (hr : ∀ g, row = some g → g < w.heap.size → g ∈ l) : Mod l w w'' :=
  ⟨k.os.trans h.os, k.tape.trans h.tape, k.output.trans h.output, Nat.le_trans h.size k.size, fun j hj hn => (k.block j (Nat.lt_of_lt_of_le hj h.size) (fun e => hn (hr j e.symm hj))).trans (h.block j hj hn)⟩
theorem Mod.cell (h : Mod l w w') {p : Addr} (hp : p.block < w.heap.size) (hn : p.block ∉ l) : w'.cell? p = w.cell? p := World.cell?_of_block (h.block p.block hp hn)
theorem Mod.frozen (h : Mod l w w') {p : Addr} (hp : p.block < w.heap.size) (hn : p.block ∉ l) : w'.frozen? p = w.frozen? p := World.frozen?_of_block (h.block p.block hp hn)
theorem Mod.heap (h : Mod l w w') {b : Nat} {o : Obj} (hb : w.heap[b]? = some o) (hn : b ∉ l) : w'.heap[b]? = some o := (h.block b (Array.getElem?_eq_some_iff.1 hb).1 hn).trans hb
theorem Mod.mapAt {V : Type} {b : Nat} {q : IntKind} {enc : V → Value} {m : List (Int × V)} (h : Mod l w w') (k : MapAt w b q enc m) (hn : b ∉ l) : MapAt w' b q enc m := k.keep (h.block b k.lt hn)
end

/-- a cell lies in another block than a map -/
theorem MapAt.ne_cell {V : Type} {w : World} {b : Nat} {q : IntKind} {enc : V → Value} {m : List (Int × V)} (h : MapAt w b q enc m) {a : Addr} {v : Value} (hc : w.cell? a = some v) : a.block ≠ b := by
  rintro rfl
  obtain ⟨es, clock, hb, _⟩ := h
  simp [World.cell?, hb] at hc
theorem MapAt.ne_heap {V : Type} {w : World} {b g : Nat} {q : IntKind} {enc : V → Value} {m : List (Int × V)} (h : MapAt w b q enc m) {c : Array Value} {t : TypeId} {f : Nat × Nat} (hc : w.heap[g]? = some (.cells c t f)) : g ≠ b := by
  rintro rfl
  obtain ⟨es, clock, hb, _⟩ := h
  rw [hb] at hc; cases hc
theorem Mod.cellM {V : Type} {w w' : World} {b : Nat} {q : IntKind} {enc : V → Value} {m : List (Int × V)} (k : Mod [b] w w') (h : MapAt w b q enc m) {a : Addr} {v : Value} (hc : w.cell? a = some v) : w'.cell? a = some v := by
  have := h.ne_cell hc
  rw [k.cell (World.block_lt_of_cell? _ _ hc) (by simpa using this)]
  exact hc
theorem Mod.cell0 {w w' : World} (k : Mod [] w w') {a : Addr} {v : Value} (hc : w.cell? a = some v) : w'.cell? a = some v := by
  rw [k.cell (World.block_lt_of_cell? _ _ hc) (by simp)]
  exact hc
theorem But.mod {w w' : World} {b : Nat} (h : But w w' b) : Mod [b] w w' := (Mod.refl [b] w).but h (by simp)

theorem str_iff (a b : ByteArray) : (a.toList == b.toList) = true ↔ a = b := by rw [← beq_toListBytes]; exact MapKept.bytes_beq a b
theorem str_yes {a b : ByteArray} (h : a = b) : (a.toList == b.toList) = true := (str_iff a b).2 h
theorem str_no {a b : ByteArray} (h : a ≠ b) : (a.toList == b.toList) = false := by
  cases e : (a.toList == b.toList) with
  | false => rfl
  | true => exact absurd ((str_iff a b).1 e) h

section
variable {V : Type} {P : Program} {w : World} {b : Nat} {q : IntKind} {enc : V → Value} {M : List (Int × V)}
variable {ops : Array Oper} {rest : List Oper} {o : Oper} {a : Act} {Q : Exit → Act → World → Prop}

theorem wpList_run_value (hg : o.guard = none) {v : Value} {w' : World} (hrun : (execOp a.eval o).run P w = .ok (.value v) w') (hK : wpList P ops Q rest (a.put o.dst v) w') : wpList P ops Q (o :: rest) a w := by
  refine wpList_plain hg fun K' hK' => ?_
  unfold Oper.wp
  rw [hrun]
  exact hK' _ _ hK

theorem wpList_look_yes (hg : o.guard = none) (m x : Operand) (t : TypeId) (hop : o.op = Op.lookup t m x true) {kt et : TypeId} (ht : P.underlying t = some (.map kt et)) (hk : P.underlying kt = some (.int q))
    (hM : MapAt w b q enc M) (hm : a.eval m = .map (some b)) (k : Int) (hx : a.eval x = .int q k) (v : V) (hv : get k M = some v)
    (hK : wpList P ops Q rest (a.put o.dst (.tuple #[enc v, .bool true])) w) : wpList P ops Q (o :: rest) a w := by
  refine wpList_plain hg fun K' hK' => ?_
  have hrun := hM.look ht hk k hv true
  unfold Oper.wp
  simp [execOp, hop, hm, hx, hrun, Result.andThen]
  exact hK' _ _ hK
theorem wpList_look_no (hg : o.guard = none) (m x : Operand) (t : TypeId) (hop : o.op = Op.lookup t m x true) {kt et : TypeId} (ht : P.underlying t = some (.map kt et)) (hk : P.underlying kt = some (.int q)) {z : Value} (hz : (zeroValue et).run P w = .ok z w)
    (hM : MapAt w b q enc M) (hm : a.eval m = .map (some b)) (k : Int) (hx : a.eval x = .int q k) (hv : get k M = none)
    (hK : wpList P ops Q rest (a.put o.dst (.tuple #[z, .bool false])) w) : wpList P ops Q (o :: rest) a w := by
  refine wpList_plain hg fun K' hK' => ?_
  have hrun := hM.look_none ht hk hz k hv true
  unfold Oper.wp
  simp [execOp, hop, hm, hx, hrun, Result.andThen]
  exact hK' _ _ hK
/-- 'm[k]' where it is there -/
theorem wpList_look_one (hg : o.guard = none) (m x : Operand) (t : TypeId) (hop : o.op = Op.lookup t m x false) {kt et : TypeId} (ht : P.underlying t = some (.map kt et)) (hk : P.underlying kt = some (.int q))
    (hM : MapAt w b q enc M) (hm : a.eval m = .map (some b)) (k : Int) (hx : a.eval x = .int q k) (v : V) (hv : get k M = some v)
    (hK : wpList P ops Q rest (a.put o.dst (enc v)) w) : wpList P ops Q (o :: rest) a w := by
  refine wpList_plain hg fun K' hK' => ?_
  have hrun := hM.look ht hk k hv false
  unfold Oper.wp
  simp [execOp, hop, hm, hx, hrun, Result.andThen]
  exact hK' _ _ hK
theorem wpList_store_at (hg : o.guard = none) (m x y : Operand) (t : TypeId) (hop : o.op = Op.mapUpdate t m x y) {kt et : TypeId} (ht : P.underlying t = some (.map kt et)) (hk : P.underlying kt = some (.int q))
    (hM : MapAt w b q enc M) (hm : a.eval m = .map (some b)) (k : Int) (hx : a.eval x = .int q k) (v : V) (hv : a.eval y = enc v)
    (hK : ∀ w', MapAt w' b q enc (put k v M) → But w w' b → wpList P ops Q rest (a.put o.dst undef) w') : wpList P ops Q (o :: rest) a w := by
  refine wpList_plain hg fun K' hK' => ?_
  obtain ⟨w', hrun, h1, h2⟩ := hM.store ht hk k v
  unfold Oper.wp
  simp [execOp, hop, hm, hx, hv, hrun, Result.andThen]
  exact hK' _ _ (hK w' h1 h2)
theorem wpList_drop_at (hg : o.guard = none) (m x : Operand) (t kt' : TypeId) (hop : o.op = Op.call { callee := Callee.builtin Builtin.delete, args := #[m, x], argTypes := #[t, kt'] }) {kt et : TypeId} (ht : P.underlying t = some (.map kt et)) (hk : P.underlying kt = some (.int q))
    (hM : MapAt w b q enc M) (hm : a.eval m = .map (some b)) (k : Int) (hx : a.eval x = .int q k)
    (hK : ∀ w', MapAt w' b q enc (del k M) → But w w' b → wpList P ops Q rest (a.put o.dst (.tuple #[])) w') : wpList P ops Q (o :: rest) a w := by
  refine wpList_plain hg fun K' hK' => ?_
  obtain ⟨w', hrun, h1, h2⟩ := hM.drop (ty := o.type) ht hk k #[t, kt'] rfl
  unfold Oper.wp
  simp [execOp, hop, resolve, invoke, builtin, hm, hx, hrun, Result.andThen]
  exact hK' _ _ (hK w' h1 h2)
theorem wpList_len_at (hg : o.guard = none) (m : Operand) (t : TypeId) (hop : o.op = Op.call { callee := Callee.builtin Builtin.len, args := #[m], argTypes := #[t] }) {kt et : TypeId} (ht : P.underlying t = some (.map kt et))
    (hM : MapAt w b q enc M) (hm : a.eval m = .map (some b))
    (hK : wpList P ops Q rest (a.put o.dst (.int .i64 M.length)) w) : wpList P ops Q (o :: rest) a w := by
  refine wpList_plain hg fun K' hK' => ?_
  unfold Oper.wp
  simp [execOp, hop, resolve, invoke, builtin, hm, hM.len (ty := o.type) ht #[t] rfl, Result.andThen]
  exact hK' _ _ hK
theorem wpList_clear_at (hg : o.guard = none) (m : Operand) (t : TypeId) (hop : o.op = Op.call { callee := Callee.builtin Builtin.clear, args := #[m], argTypes := #[t] }) {kt et : TypeId} (ht : P.underlying t = some (.map kt et))
    (hM : MapAt w b q enc M) (hm : a.eval m = .map (some b))
    (hK : ∀ w', MapAt w' b q enc ([] : List (Int × V)) → But w w' b → wpList P ops Q rest (a.put o.dst (.tuple #[])) w') : wpList P ops Q (o :: rest) a w := by
  refine wpList_plain hg fun K' hK' => ?_
  obtain ⟨w', hrun, h1, h2⟩ := hM.clear (ty := o.type) ht #[t] rfl
  unfold Oper.wp
  simp [execOp, hop, resolve, invoke, builtin, hm, hrun, Result.andThen]
  exact hK' _ _ (hK w' h1 h2)
end
end Go.Proofs.Om
