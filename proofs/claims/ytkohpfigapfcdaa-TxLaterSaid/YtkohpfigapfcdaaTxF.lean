/-
  A RECORD IS FOUND IN A LIST: what Find tells.
  No condition.
-/
import Derived.Test.YtkohpfigapfcdaaOMapWalk
import Derived.Test.YtkohpfigapfcdaaRows
namespace Go.Proofs.Ytkohpfigapfcdaa.Tx
open Go.RowKit Go.Proofs.Om

structure Bd where
  id : Int
  s : ByteArray
def find (id : Int) : List Bd → ByteArray × Bool
  | [] => (⟨#[]⟩, false)
  | b :: r => if b.id = id then (b.s, true) else find id r

/-- a slice of records in memory -/
def BodiesAt (w : World) (A : Option Addr) (l : List Bd) : Prop :=
  ∀ j x, l[j]? = some x → ∃ b o, A = some ⟨b, o, none⟩ ∧ w.cell? ⟨b, o + j * 2, none⟩ = some (.int .u64 x.id) ∧ w.cell? ⟨b, o + j * 2 + 1, none⟩ = some (.string x.s)

theorem find_drop (id : Int) (l : List Bd) (k : Nat) (x : Bd) (h : l[k]? = some x) : find id (l.drop k) = if x.id = id then (x.s, true) else find id (l.drop (k + 1)) := by
  obtain ⟨hk, rfl⟩ := List.getElem?_eq_some_iff.1 h
  rw [List.drop_eq_getElem_cons hk]
  rfl

set_option maxHeartbeats 400000 in
theorem find_calls (A : Option Addr) (c : Nat) (l : List Bd) (id : Int) (w : World) (h : BodiesAt w A l) (hl : l.length < 4611686018427387904) :
    Calls Try.prog 18 #[.slice A l.length c, .int .u64 id] w fun e w' => e = .returned (.tuple #[.string (find id l).1, .bool (find id l).2]) ∧ w' = w := by
  have H := hid h
  clear h
  go_enter Try.func18, Try.ntmps18
  go_wp2
  go_loop [6] (fun i => ∃ k : Nat, k ≤ l.length ∧ i = .int .i64 k ∧ Hid (find id l = find id (l.drop k))) (fun i => l.length - (intOf i).toNat)
  case atStart => exact ⟨0, Nat.zero_le _, rfl, hid rfl⟩
  case round =>
    obtain ⟨k, hk, rfl, HF⟩ := hrel
    by_cases hlt : k < l.length
    · obtain ⟨b, o, rfl, h0, h1⟩ := H.out k l[k] (List.getElem?_eq_getElem hlt)
      have hd := find_drop id l k l[k] (List.getElem?_eq_getElem hlt)
      generalize l[k] = x at *
      by_cases he : x.id = id
      · have he' : (x.id == id) = true := by simpa using he
        rw [if_pos he] at hd
        have HD := hid (HF.out.trans hd)
        clear hd HF he
        go_wp2
        go_ret2
        exact ⟨by rw [HD.out]; rfl, rfl⟩
      · have he' : (x.id == id) = false := by simpa using he
        rw [if_neg he] at hd
        have HD := hid (HF.out.trans hd)
        clear hd HF he
        go_wp2
        go_round
        case rel => exact ⟨k + 1, by omega, by go_num, HD⟩
        case measure => simp [intOf]; omega
    · have hkl : k = l.length := by omega
      subst hkl
      have HD := hid (HF.out.trans (by rw [List.drop_length]; rfl : _ = ((⟨#[]⟩ : ByteArray), false)))
      clear HF
      go_wp2
      go_ret2
      exact ⟨by rw [HD.out]; rfl, rfl⟩
end Go.Proofs.Ytkohpfigapfcdaa.Tx
