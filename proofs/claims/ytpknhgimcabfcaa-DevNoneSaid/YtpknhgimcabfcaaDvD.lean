/-
  A LOSS OF POWER.
  Condition: a device whose sectors are whole.
-/
import Derived.Test.YtpknhgimcabfcaaDvC
import Derived.Test.YtpknhgimcabfcaaSrtI
namespace Go.Proofs.Ytpknhgimcabfcaa.Dv
open Go.RowKit Go.Proofs.Om Go.Proofs.Ytpknhgimcabfcaa.Srt Go.Proofs.Ytpknhgimcabfcaa.Keys

structure DevS.Ok (D : DevS) : Prop where
  sure : ∀ s ∈ D.sure, s.size = 128
  at' : ∀ p ∈ D.cache, 0 ≤ p.1 ∧ p.1 < D.sure.length ∧ p.2.size = 128
  few : D.sure.length ≤ 65536

/-- is the k-th loose sector lost? -/
def bit (keep : Int) (k : Nat) : Bool := bits BinOp.and IntKind.u64 (keep / 2 ^ (min (k : Int) 63).toNat) 1 == 0

def mix (n : Nat) (s o : ByteArray) : ByteArray := s.extract 0 n ++ o.extract n 128
def lim (t : Int) : Nat := (min (max t 0) 128).toNat
/-- what lies there behind a loss of power -/
def crashGo (keep : Int) : Nat → Int → List (Int × ByteArray) → List ByteArray → List ByteArray
  | _, _, [], S => S
  | k, t, (a, s) :: r, S => if bit keep k then crashGo keep (k + 1) 0 r (S.set a.toNat (mix (lim t) s (S.getD a.toNat ⟨#[]⟩))) else crashGo keep (k + 1) t r (S.set a.toNat s)
def DevS.crash (D : DevS) (keep torn : Int) : DevS := if D.off then D else ⟨crashGo keep 0 torn D.cache D.sure, [], D.steps, D.falls, true⟩
theorem mix_size {n : Nat} {s o : ByteArray} (hn : n ≤ 128) (hs : s.size = 128) (ho : o.size = 128) : (mix n s o).size = 128 := by
  unfold mix
  rw [ByteArray.size_append, ByteArray.size_extract, ByteArray.size_extract]
  omega

theorem crash_nil (keep torn : Int) (w : World) : Calls Try.prog 11 #[.pointer none, .int .u64 keep, .int .i64 torn] w fun e w' => e = .returned (.tuple #[]) ∧ w' = w := by
  go_enter Try.func11, Try.ntmps11
  go_wp2_with (first | (go_at_call 18; refine (off_nil _).mono ?_; rintro e w' ⟨rfl, rfl⟩))
  refine bodyPost_ret (results_none rfl _ _ _) rfl ?_
  exact ⟨rfl, rfl⟩

theorem asc_len {V : Type} : ∀ (m : List (Int × V)) (a b : Int), Asc m → (∀ p ∈ m, a ≤ p.1 ∧ p.1 < b) → (m.length : Int) ≤ b - a ∨ m = []
  | [], _, _, _, _ => .inr rfl
  | p :: m, a, b, ha, h => by
    left
    have hp := h p (by simp)
    rcases asc_len m (p.1 + 1) b (asc_tail ha) (fun q hq => ⟨asc_head ha q hq, (h q (by simp [hq])).2⟩) with h1 | rfl
    · simp only [List.length_cons]; omega
    · simp; omega
theorem foot_int {w : World} {q : Pl} {D : DevS} {g : Nat} {xs : List Int} (h : DevAt w q D) (hr : RowI w g 3 .i64 xs) : g ∉ q.foot := by
  obtain ⟨cur, hc, _⟩ := hr
  intro hm
  rcases mem_foot.1 hm with e | e | e | e
  · rw [e, h.1] at hc; cases hc
  · obtain ⟨es, clock, h3, _⟩ := h.2.2.1
    rw [e, h3] at hc; cases hc
  · obtain ⟨_, _, cur', h2⟩ := h.2.1.block e
    rw [h2] at hc; cases hc
  · obtain ⟨_, _, cur', h2⟩ := h.2.2.2.block e
    rw [h2] at hc; cases hc
theorem cache_len {D : DevS} (h : D.Ok) (ha : Asc D.cache) : D.cache.length ≤ 65536 := by
  have hf := h.few
  rcases asc_len D.cache 0 D.sure.length ha (fun p hp => ⟨(h.at' p hp).1, (h.at' p hp).2.1⟩) with h1 | h1
  · omega
  · rw [h1]; simp

set_option maxRecDepth 100000 in
set_option maxHeartbeats 1000000 in
theorem crash_calls (q : Pl) (D : DevS) (keep torn : Int) (w : World) (h : DevAt w q D) (hok : D.Ok) : Calls Try.prog 11 #[.pointer (some ⟨q.p, 0, none⟩), .int .u64 keep, .int .i64 torn] w fun e w' => e = .returned (.tuple #[]) ∧ DevAt w' q (D.crash keep torn) ∧ Mod q.foot w w' := by
  have HD := hid h
  have c1 := h.c1
  have hlt := h.lt
  have hcl := cache_len hok h.2.2.1.asc
  clear h
  obtain ⟨sure, cache, steps, falls, off⟩ := D
  cases off with
  | true =>
    go_enter Try.func11, Try.ntmps11
    go_wp2_with (first | (go_at_call 18; refine (off_calls q _ _ HD.out).mono ?_; rintro e w' ⟨rfl, hw⟩; obtain rfl := hw.symm))
    refine bodyPost_ret (results_none rfl _ _ _) rfl ?_
    exact ⟨rfl, HD.out, Mod.refl _ _⟩
  | false =>
    dsimp only at hcl
    go_enter Try.func11, Try.ntmps11
    go_wp2_with (first
      | (go_at_call 18; refine (off_calls q _ _ HD.out).mono ?_; rintro e w' ⟨rfl, hw⟩; obtain rfl := hw.symm)
      | (go_at_call 29; refine (Keys.keys_calls _ _).mono ?_; rintro e w' ⟨rfl, hw⟩; obtain rfl := hw.symm)
      | (go_at_call 28; go_must (refine (sorted_calls w.heap.size q.b cache (by omega) _ (by simp) (World.cell?_alloc_new _ _ _ _) (HD.out.2.2.1.keep ((MapKept.heap_alloc _ _).2 _ HD.out.2.2.1.lt))).mono ?_); rintro e w1 ⟨v, rfl, hv, hm⟩; obtain ⟨A, cap, rfl, ha⟩ := hv.form; go_must (rw [List.length_map] at ha ⊢); have HM1 := hid (((Mod.refl [] w).alloc _).trans hm); have HA := hid ha; clear hm hv ha))
    go_loopw [2, 19] (fun vt vi wr => ∃ (k : Nat) (t : Int) (S : List ByteArray), k ≤ cache.length ∧ vt = .int .i64 t ∧ vi = .int .i64 k ∧ Hid (DevAt wr q ⟨S, cache, steps, falls, false⟩ ∧ Mod q.foot w1 wr ∧ S.length = sure.length ∧ (∀ s ∈ S, s.size = 128) ∧ crashGo keep k t (cache.drop k) S = crashGo keep 0 torn cache sure)) (fun _ vi _ => cache.length - (intOf vi).toNat)
    case atStart => exact ⟨0, torn, sure, by omega, rfl, rfl, hid ⟨HD.out.mod0 HM1.out, Mod.refl _ _, rfl, hok.sure, rfl⟩⟩
    case round =>
      obtain ⟨k, t, S, hk, rfl, rfl, HI⟩ := hrel
      by_cases hlt : k < cache.length
      · have hx : (cache.map (·.1))[k]? = some (cache[k].1) := by simp [hlt]
        obtain ⟨g, rfl, hr⟩ := HA.out k (by simpa using hlt)
        have HR := hid (hr)
        clear hr
        have hmem : cache[k] ∈ cache := List.getElem_mem hlt
        have hg : get cache[k].1 cache = some cache[k].2 := get_of_mem HD.out.2.2.1.asc hmem
        have hat := hok.at' _ hmem
        have hg1 : g ∉ q.foot := foot_int (HD.out.mod0 HM1.out) HR.out
        have hrow := (HR.out.mod HI.out.2.1 hg1).cell hx
        have d0 := HI.out.1.c0
        have d1 := HI.out.1.c1
        have hMr := hid HI.out.1.2.2.1
        dsimp only at d0 d1 hMr
        obtain ⟨As, caps, hsv, _⟩ := HI.out.1.2.1.form
        dsimp only at hsv
        have hgo := HI.out.2.2.2.2
        rw [List.drop_eq_getElem_cons hlt] at hgo
        generalize cache[k] = x at *
        obtain ⟨at', s⟩ := x
        dsimp only at hx hg hat hrow
        obtain ⟨j, rfl⟩ : ∃ j : Nat, at' = j := ⟨at'.toNat, by omega⟩
        have hjl : j < S.length := by have := HI.out.2.2.1; omega
        have hSj : S[j]? = some S[j] := List.getElem?_eq_getElem hjl
        have hsz := HI.out.2.2.2.1 _ (List.getElem_mem hjl)
        obtain ⟨g2, cap2, e2, _, hc2⟩ := HI.out.1.2.1.cell (fun _ => rfl) hSj (i := 0) (u := .string S[j]) rfl
        have hfr := hid HI.out.1
        rw [e2] at d0
        rw [Nat.mul_one, Nat.add_zero] at hc2
        have hf2 : wr.frozen? ⟨g2, j, none⟩ = false := by
          have h2 := HI.out.1.2.1
          rw [e2] at h2
          exact h2.free j
        have hgd : S.getD j ⟨#[]⟩ = S[j] := by simp [List.getD, hSj]
        rw [crashGo, Int.toNat_natCast, hgd] at hgo
        generalize S[j] = sj at *
        have HG := hid hg
        clear hg hsv hmem hx
        cases hb : bit keep k with
        | true =>
          have hb0 := hb
          unfold bit at hb
          go_wp2_with (first | (at_lookup; refine wpList_look_one rfl _ _ _ rfl Try.underlying56 Try.underlying3 hMr.out rfl j rfl s HG.out ?_))
          obtain ⟨n, hn, hn2⟩ : ∃ n : Nat, min (max t 0) 128 = (n : Int) ∧ n ≤ 128 := ⟨(min (max t 0) 128).toNat, by omega, by omega⟩
          simp only [hn]
          have hlim : lim t = n := by unfold lim; omega
          have hgo2 := hgo.symm.trans (if_pos hb0)
          rw [hlim] at hgo2
          have hs := hfr.out.setSure e2 j (mix n s sj) _ rfl
          have HS := hid (show DevAt (wr.setCell ⟨g2, j, none⟩ (.string (mix n s sj))) q ⟨S.set j (mix n s sj), cache, steps, falls, false⟩ ∧ Mod q.foot w1 (wr.setCell ⟨g2, j, none⟩ (.string (mix n s sj))) ∧ (S.set j (mix n s sj)).length = sure.length ∧ (∀ x ∈ S.set j (mix n s sj), x.size = 128) ∧ crashGo keep (k + 1) 0 (cache.drop (k + 1)) (S.set j (mix n s sj)) = crashGo keep 0 torn cache sure from
            ⟨hs, HI.out.2.1.setCell (fun _ => mem_foot.2 (.inr (.inr (.inl (by rw [e2]; rfl))))) _, by rw [List.length_set]; exact HI.out.2.2.1, fun x hx => by
              rcases List.mem_or_eq_of_mem_set hx with h | rfl
              · exact HI.out.2.2.2.1 x h
              · exact mix_size hn2 hat.2.2 hsz, hgo2.symm⟩)
          clear hs hgo hgo2
          go_quiet (fail)
          go_wp2
          go_roundw
          case rel => exact ⟨k + 1, 0, S.set j (mix n s sj), by omega, rfl, by go_num, hid ⟨HS.out.1.keep fun _ _ => rfl, HS.out.2.1.same rfl rfl rfl rfl, HS.out.2.2⟩⟩
          case measure => simp [intOf]; omega
        | false =>
          have hgo2 := hgo.symm.trans (if_neg (by rw [hb]; decide))
          unfold bit at hb
          have hs := HI.out.1.setSure e2 j s _ rfl
          have hms : Mod q.foot w1 (wr.setCell ⟨g2, j, none⟩ (.string s)) := HI.out.2.1.setCell (fun _ => mem_foot.2 (.inr (.inr (.inl (by rw [e2]; rfl))))) _
          have hok2 : ∀ x ∈ S.set j s, x.size = 128 := fun x hx => by
            rcases List.mem_or_eq_of_mem_set hx with h | rfl
            · exact HI.out.2.2.2.1 x h
            · exact hat.2.2
          have HS := hid (show DevAt (wr.setCell ⟨g2, j, none⟩ (.string s)) q ⟨S.set j s, cache, steps, falls, false⟩ ∧ Mod q.foot w1 (wr.setCell ⟨g2, j, none⟩ (.string s)) ∧ (S.set j s).length = sure.length ∧ (∀ x ∈ S.set j s, x.size = 128) ∧ crashGo keep (k + 1) t (cache.drop (k + 1)) (S.set j s) = crashGo keep 0 torn cache sure from ⟨hs, hms, by rw [List.length_set]; exact HI.out.2.2.1, hok2, hgo2.symm⟩)
          clear hs hms hok2 hgo hgo2
          go_wp2_with (first | (at_lookup; refine wpList_look_one rfl _ _ _ rfl Try.underlying56 Try.underlying3 hMr.out rfl j rfl s HG.out ?_))
          go_roundw
          case rel => exact ⟨k + 1, t, S.set j s, by omega, rfl, by go_num, HS⟩
          case measure => simp [intOf]; omega
      · have hkl : k = cache.length := by omega
        subst hkl
        have hgo := HI.out.2.2.2.2
        rw [List.drop_length, crashGo] at hgo
        subst hgo
        have d1 := HI.out.1.c1
        have hMr := hid HI.out.1.2.2.1
        dsimp only at d1 hMr
        go_wp2_with (first | (refine wpList_clear_at rfl _ _ rfl Try.underlying56 hMr.out rfl ?_; intro w3 hM3 hB3; have HD3 := hid (HI.out.1.setCache hB3 hM3); have HM3 := hid (HI.out.2.1.but hB3 (fun _ => mem_foot.2 (.inr (.inl rfl)))); have d4 := HD3.out.c4; have f4 := HD3.out.free 4; clear hM3 hB3))
        go_end0
        refine ⟨rfl, ?_, ?_⟩
        · exact HD3.out.setOff true
        · exact ((HM1.out.mono (by simp)).trans HM3.out).setCell (fun _ => mem_foot.2 (.inl rfl)) _
end Go.Proofs.Ytpknhgimcabfcaa.Dv
