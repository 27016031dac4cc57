/-
  FLUSH OF A DEVICE.
  Condition: at most one loss of power is planned.
-/
import Derived.Test.YtpknhgimcabfcaaDvG
namespace Go.Proofs.Ytpknhgimcabfcaa.Dv
open Go.RowKit Go.Proofs.Om Go.Proofs.Ytpknhgimcabfcaa.Srt Go.Proofs.Ytpknhgimcabfcaa.Keys

def flushL (cache : List (Int × ByteArray)) (sure : List ByteArray) : List ByteArray := cache.foldl (fun S p => S.set p.1.toNat p.2) sure
def DevS.flush (D : DevS) : DevS × Int :=
  if D.off = true then (D, 7) else if D.step.2 = 0 then ({ D.step.1 with sure := flushL D.step.1.cache D.step.1.sure, cache := [] }, 0) else (D.step.1, D.step.2)

theorem flush_get : ∀ (cache : List (Int × ByteArray)) (sure : List ByteArray), Asc cache → (∀ p ∈ cache, 0 ≤ p.1 ∧ p.1 < sure.length) → ∀ j : Nat, (flushL cache sure)[j]? = match get (j : Int) cache with | some s => some s | none => sure[j]?
  | [], sure, _, _, j => rfl
  | p :: r, sure, ha, hk, j => by
    have ih := flush_get r (sure.set p.1.toNat p.2) (asc_tail ha) (fun x hx => by rw [List.length_set]; exact hk x (by simp [hx])) j
    have e : flushL (p :: r) sure = flushL r (sure.set p.1.toNat p.2) := rfl
    have hp := hk p (by simp)
    rw [e, ih]
    obtain ⟨k, v⟩ := p
    dsimp only at hp ⊢
    by_cases hj : k = (j : Int)
    · have hn : get (j : Int) r = none := get_none_of fun q hq => by have := asc_head ha q hq; dsimp only at this; omega
      rw [hn]
      subst hj
      have hg : get (j : Int) (((j : Int), v) :: r) = some v := by simp [Om.get]
      rw [hg]
      simp only [Int.toNat_natCast]
      rw [List.getElem?_set_self (by omega)]
    · have hg : get (j : Int) ((k, v) :: r) = get (j : Int) r := by simp [Om.get, hj]
      rw [hg]
      cases get (j : Int) r with
      | some s => rfl
      | none => rw [List.getElem?_set_ne (by omega)]

/-- what is flushed so far -/
def Half (cache : List (Int × ByteArray)) (sure S : List ByteArray) (todo : List Int) : Prop :=
  S.length = sure.length ∧ ∀ j : Nat, S[j]? = if (j : Int) ∈ todo then sure[j]? else match get (j : Int) cache with | some s => some s | none => sure[j]?

theorem half_start (cache : List (Int × ByteArray)) (sure : List ByteArray) : Half cache sure sure (cache.map (·.1)) := by
  refine ⟨rfl, fun j => ?_⟩
  split
  · rfl
  · rename_i h
    have : get (j : Int) cache = none := get_none_of fun p hp e => h (List.mem_map.2 ⟨p, hp, e⟩)
    rw [this]
theorem half_step {cache : List (Int × ByteArray)} {sure S : List ByteArray} {todo : List Int} (h : Half cache sure S todo) (hn : todo.Nodup) {k : Nat} {s : ByteArray} (hk : (k : Int) ∈ todo) (hg : get (k : Int) cache = some s) (hl : k < sure.length) : Half cache sure (S.set k s) (todo.erase (k : Int)) := by
  refine ⟨by rw [List.length_set]; exact h.1, fun j => ?_⟩
  by_cases hj : j = k
  · subst hj
    rw [List.getElem?_set_self (by rw [h.1]; exact hl), if_neg (by rw [hn.mem_erase_iff]; simp), hg]
  · rw [List.getElem?_set_ne (fun e => hj e.symm), h.2 j]
    have : ((j : Int) ∈ todo.erase (k : Int)) ↔ (j : Int) ∈ todo := by
      rw [hn.mem_erase_iff]
      constructor
      · exact fun h => h.2
      · exact fun h => ⟨by omega, h⟩
    by_cases hm : (j : Int) ∈ todo
    · rw [if_pos hm, if_pos (this.2 hm)]
    · rw [if_neg hm, if_neg (fun h => hm (this.1 h))]
theorem half_end {cache : List (Int × ByteArray)} {sure S : List ByteArray} (h : Half cache sure S []) (ha : Asc cache) (hk : ∀ p ∈ cache, 0 ≤ p.1 ∧ p.1 < sure.length) : S = flushL cache sure := by
  apply List.ext_getElem?
  intro j
  rw [h.2 j, flush_get cache sure ha hk j]
  simp
theorem IterAt.nodup {V : Type} {w : World} {r b : Nat} {q : IntKind} {enc : V → Value} {m : List (Int × V)} {todo : List Int} (h : IterAt w r b q enc m todo) : todo.Nodup := by
  obtain ⟨_, _, _, _, _, _, _, _, _, _, h, _⟩ := h
  exact h

set_option maxHeartbeats 1000000 in
theorem flush_calls (q : Pl) (D : DevS) (w : World) (h : DevAt w q D) (hok : D.Ok) (hf : D.falls.length ≤ 1) (hs : D.steps < 4611686018427387904) :
    Calls Try.prog 17 #[.pointer (some ⟨q.p, 0, none⟩)] w fun e w' => e = .returned (.int .i64 D.flush.2) ∧ ∃ v, v.ownBlock = q.fv.ownBlock ∧ DevAt w' (q.withF v) D.flush.1 ∧ Mod q.foot w w' := by
  have HD := hid h
  have HS := hid (step_calls q D w h hok hf hs)
  have HO := hid (off_calls q D w h)
  cases ho : D.off with
  | true =>
    have hw : D.flush = (D, 7) := by unfold DevS.flush; rw [if_pos ho]
    rw [hw]
    rw [ho] at HO
    clear h hf hs ho hw
    go_enter Try.func17, Try.ntmps17
    go_wp2_with (first | (go_at_call 18; refine HO.out.mono ?_; rintro e w' ⟨rfl, hw⟩; obtain rfl := hw.symm))
    go_ret
    exact ⟨rfl, q.fv, rfl, HD.out, Mod.refl _ _⟩
  | false =>
    rw [ho] at HO
    have hno : ¬ D.off = true := by rw [ho]; decide
    rcases step_cases D with ⟨z, z1⟩ | ⟨z, f, z1⟩
    · have hw : D.flush = ({ D.step.1 with sure := flushL D.step.1.cache D.step.1.sure, cache := [] }, 0) := by unfold DevS.flush; rw [if_neg hno, if_pos z]
      rw [hw]
      rw [z, z1] at HS
      rw [z1]
      obtain ⟨sure, cache, steps, falls, off⟩ := D
      dsimp only at HS HO HD ho ⊢
      subst ho
      have hcl := cache_len hok h.2.2.1.asc
      have hat := hok.at'
      dsimp only at hcl hat
      have HAsc := hid h.2.2.1.asc
      have hlt := h.lt
      clear hw h hf hs hno z z1
      go_enter Try.func17, Try.ntmps17
      go_wp2_with (first
        | (go_at_call 18; refine HO.out.mono ?_; rintro e w' ⟨rfl, hw⟩; obtain rfl := hw.symm)
        | (go_at_call 33; refine HS.out.mono ?_; rintro e w1 ⟨rfl, v, hv, hd, hm⟩; have HD1 := hid hd; have HM1 := hid hm; have c1 := hd.c1; rw [withF_p] at c1; clear hd hm)
        | (refine wpList_range_at rfl _ _ rfl Try.underlying56 HD1.out.2.2.1 rfl ?_; intro o' hi0; have HI0 := hid hi0; clear hi0))
      have hft : (q.withF v).foot = q.foot := foot_withF hv
      go_loopg [4] cache.length (fun k _ wr => ∃ (todo : List Int) (S : List ByteArray), Hid (IterAt wr w1.heap.size q.b .i64 Value.string cache todo ∧ DevAt wr (q.withF v) ⟨S, cache, steps + 1, falls, false⟩ ∧ Half cache sure S todo ∧ Mod q.foot w wr) ∧ todo.length = k)
      case atStart => exact ⟨_, sure, hid ⟨HI0.out, HD1.out.mod0 ((Mod.refl _ _).alloc _), half_start _ _, HM1.out.alloc _⟩, by simp⟩
      case round =>
        obtain ⟨todo, S, HR, hk⟩ := hrel
        have HK := hid hk
        clear hk
        have c0 := HR.out.2.1.c0
        rw [withF_p] at c0
        go_wp2_with (first
          | (refine wpList_next_at rfl _ rfl rfl HR.out.1 ?_ ?_))
        · intro ht
          have h := HR.out
          rw [ht] at h
          have hS := half_end h.2.2.1 HAsc.out (fun p hp => ⟨(hat p hp).1, (hat p hp).2.1⟩)
          have d1 := h.2.1.c1
          rw [withF_p] at d1
          have HE := hid h
          clear h
          go_wp2_with (first | (refine wpList_clear_at rfl _ _ rfl Try.underlying56 HE.out.2.1.2.2.1 rfl ?_; intro w3 hM3 hB3; have HD3 := hid (HE.out.2.1.setCache hB3 hM3); have HM3 := hid (HE.out.2.2.2.but hB3 (fun _ => mem_foot.2 (.inr (.inl rfl)))); clear hM3 hB3))
          go_ret
          rw [hS] at HD3
          exact ⟨rfl, v, hv, HD3.out, HM3.out⟩
        · intro key s w2 hx hg hi hgr hsz hen
          have hmem := mem_of_get hg
          have hka := hat _ hmem
          dsimp only at hka
          obtain ⟨n, rfl⟩ : ∃ n : Nat, key = n := ⟨key.toNat, by omega⟩
          have hnl : n < sure.length := by omega
          have hrf : w1.heap.size ∉ (q.withF v).foot := fun hm => by
            have := HD1.out.foot_lt _ hm
            omega
          have hmw : Mod [w1.heap.size] wr w2 := (Mod.refl _ wr).grown hgr (fun g e _ => by cases e; simp)
          have hd2 : DevAt w2 (q.withF v) ⟨S, cache, steps + 1, falls, false⟩ := HR.out.2.1.mod hmw (fun j hj hm => hrf (by simp at hm; rwa [← hm]))
          have hSl : n < S.length := by rw [HR.out.2.2.1.1]; exact hnl
          obtain ⟨g2, cap2, e2, _, hc2⟩ := hd2.2.1.cell (fun _ => rfl) (List.getElem?_eq_getElem hSl) (i := 0) (u := .string S[n]) rfl
          have hx2 := hd2.2.1
          rw [e2] at hx2
          have hf2 := hx2.free n
          have d0 := hd2.c0
          rw [withF_p, e2] at d0
          rw [Nat.mul_one, Nat.add_zero] at hc2
          have hg2f : g2 ∈ (q.withF v).foot := mem_foot.2 (.inr (.inr (.inl (by rw [e2]; rfl))))
          have hs3 := hd2.setSure e2 n s _ rfl
          have hwp : w1.heap.size ≠ g2 := fun e => hrf (by rw [e]; exact hg2f)
          have hbg : (q.withF v).b ≠ g2 := fun e => hd2.bs (by rw [e2, e]; rfl)
          have hi3 : IterAt (w2.setCell ⟨g2, n, none⟩ (.string s)) w1.heap.size q.b .i64 Value.string cache (todo.erase (n : Int)) :=
            hi.keep (heap_setCell_other w2 ⟨g2, n, none⟩ _ _ (fun e => hbg e)) (heap_setCell_other w2 ⟨g2, n, none⟩ _ _ (fun e => hwp e))
          have hm3 : Mod q.foot w (w2.setCell ⟨g2, n, none⟩ (.string s)) :=
            (HR.out.2.2.2.then hmw (fun j hj hl => by simp at hj; subst hj; have := HM1.out.size; omega)).setCell (fun _ => by rw [← hft]; exact hg2f) _
          have HN := hid (show IterAt (w2.setCell ⟨g2, n, none⟩ (.string s)) w1.heap.size q.b .i64 Value.string cache (todo.erase (n : Int)) ∧ DevAt (w2.setCell ⟨g2, n, none⟩ (.string s)) (q.withF v) ⟨S.set n s, cache, steps + 1, falls, false⟩ ∧ Half cache sure (S.set n s) (todo.erase (n : Int)) ∧ Mod q.foot w (w2.setCell ⟨g2, n, none⟩ (.string s)) from
            ⟨hi3, hs3, half_step HR.out.2.2.1 (IterAt.nodup HR.out.1) hx hg hnl, hm3⟩)
          have HX := hid hx
          generalize S[n] = sn at *
          clear hx hg hi hgr hsz hd2 hx2 hs3 hi3 hm3 hmw hmem hka hrf
          go_wp2
          go_roundg (todo.erase (n : Int)).length
          case rel => exact ⟨_, _, HN, rfl⟩
          case measure =>
            rw [List.length_erase_of_mem HX.out]
            have := List.length_pos_of_mem HX.out
            have := HK.out
            omega
    · have hw : D.flush = (D.step.1, 7) := by unfold DevS.flush; rw [if_neg hno, if_neg (by rw [z]; decide), z]
      rw [hw]
      rw [z] at HS
      clear hw h hf hs ho hno z z1
      go_enter Try.func17, Try.ntmps17
      go_wp2_with (first
        | (go_at_call 18; refine HO.out.mono ?_; rintro e w' ⟨rfl, hw⟩; obtain rfl := hw.symm)
        | (go_at_call 33; refine HS.out.mono ?_; rintro e w1 ⟨rfl, v, hv, hd, hm⟩; have HD1 := hid hd; have HM1 := hid hm; clear hd hm))
      go_ret
      exact ⟨rfl, v, hv, HD1.out, HM1.out⟩
end Go.Proofs.Ytpknhgimcabfcaa.Dv
