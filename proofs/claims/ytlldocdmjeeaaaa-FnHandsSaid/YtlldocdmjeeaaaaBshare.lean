/-
  The values of many hands: both packages answer the same. Conditions: those of each theorem.
-/
import Derived.Test.YtlldocdmjeeaaaaBestI
import Derived.Test.YtlldocdmjeeaaaaGrid
namespace Go.Proofs.Ytlldocdmjeeaaaa.hand
open Go.RowKit
open base mem grid

def bshOk (pss : List (List Int)) (kk : Int) : Bool := decide (pss.length ≤ 16) && (inB kk 1 8 && pss.all fun p => handB p 5 7)
def bshOut (pss : List (List Int)) (kk : Int) : List Int := if bshOk pss kk = true then pss.map fun p => (bestL p).2 else []
theorem bshOut_len (pss : List (List Int)) (kk : Int) : (bshOut pss kk).length ≤ 1048576 := by
  unfold bshOut
  cases h : bshOk pss kk
  · simp
  · unfold bshOk at h
    rw [Bool.and_eq_true] at h
    have := of_decide_eq_true h.1
    rw [if_pos rfl, List.length_map]
    omega
theorem bsh_all {pss : List (List Int)} (h : ∀ j, j < pss.length → handB (pss.getD j []) 5 7 = true) : (pss.all fun p => handB p 5 7) = true := by
  rw [List.all_eq_true]
  intro p hp
  obtain ⟨j, hj, rfl⟩ := List.mem_iff_getElem.1 hp
  have := h j hj
  simpa [List.getD, hj] using this
theorem bsh_no {pss : List (List Int)} {j : Nat} (hj : j < pss.length) (h : handB (pss.getD j []) 5 7 = false) : (pss.all fun p => handB p 5 7) = false := by
  rw [List.all_eq_false]
  refine ⟨pss[j], List.getElem_mem hj, ?_⟩
  have e : pss.getD j [] = pss[j] := by simp [List.getD, hj]
  rw [e] at h
  rw [h]
  decide
theorem bsh_step {pss : List (List Int)} {k : Nat} (hk : k < pss.length) : (pss.take (k + 1)).map (fun p => (bestL p).2) = (pss.take k).map (fun p => (bestL p).2) ++ [(bestL (pss.getD k [])).2] := by
  have e : pss.getD k [] = pss[k] := by simp [List.getD, hk]
  rw [List.take_succ_eq_append_getElem hk, List.map_append, e]
  rfl
theorem con_getD {ts : List Sl} {pss : List (List Int)} (h : con ts = pss) {k : Nat} {t : Sl} (ht : ts[k]? = some t) : pss.getD k [] = t.xs := by
  have := con_at ht
  rw [h] at this
  simp [List.getD, this]

set_option maxHeartbeats 4000000 in
theorem spec_BestShared (A : Option Addr) (m c : Nat) (ts : List Sl) (pss : List (List Int)) (kk : Int) (w : World) (hR : RdS w w.heap.size A m ts) (he : con ts = pss) (hm : m ≤ 1048576) (hM : ∀ p ∈ pss, p.length ≤ 1048576) :
    Calls Try.prog 31 #[.slice A m c, .int .i64 kk] w fun e w' => ∃ A' c', e = .returned (.tuple #[.slice A' (bshOut pss kk).length c', .bool (bshOk pss kk)]) ∧ Own w' w.heap.size A' (bshOut pss kk).length c' (bshOut pss kk) ∧ Below w.heap.size w w' := by
  have hl : pss.length = m := by rw [← he, con_len, hR.len]
  have HL := hide hl
  by_cases h16 : m ≤ 16
  rotate_left
  · have hk : bshOk pss kk = false := by simp [bshOk, hl, h16]
    have ho : bshOut pss kk = [] := by simp [bshOut, hk]
    rw [hk, ho]
    clear hk ho hR hl
    go_enter Try.func31, Try.ntmps31
    go_wp2_with fail
    go_ret2
    exact ⟨none, 0, rfl, Own.nil _ _, Below.refl _ _⟩
  cases hw8 : inB kk 1 8
  · have hk : bshOk pss kk = false := by simp [bshOk, hw8]
    have ho : bshOut pss kk = [] := by simp [bshOut, hk]
    rw [hk, ho]
    clear hk ho hR hl
    go_enter Try.func31, Try.ntmps31
    go_wp2_with ((go_at_call 62; refine (l00In_any _ _ _ _).mono ?_; rintro e w' ⟨rfl, rfl⟩); rw [hw8])
    go_ret2
    exact ⟨none, 0, rfl, Own.nil _ _, Below.refl _ _⟩
  have HO := hide (show ∀ b, (pss.all fun p => handB p 5 7) = b → bshOk pss kk = b ∧ bshOut pss kk = if b = true then pss.map (fun p => (bestL p).2) else [] from fun b hb => by
    have : bshOk pss kk = b := by simp [bshOk, hl, h16, hw8, hb]
    exact ⟨this, by rw [bshOut, this]⟩)
  obtain ⟨KO, hKO⟩ := ex_eq (bshOk pss kk)
  obtain ⟨OUT, hOUT⟩ := ex_eq (bshOut pss kk)
  rw [hKO, hOUT] at HO ⊢
  have HT := hide (show ∀ t ∈ ts, t.n ≤ 1048576 from fun t ht => by
    have h1 := (hR.2.1 t ht).1.len
    rw [← h1]
    exact hM _ (by rw [← he]; exact List.mem_map.2 ⟨t, ht, rfl⟩))
  have HE := hide he
  have HL0 := hide (Lst.new w (Nat.le_refl _))
  have HB0 := hide ((Below.refl w.heap.size w).alloc (Nat.le_refl _) (.cells #[] 2))
  have HH8 := hide hw8
  clear hKO hOUT hM he hl hw8
  go_enter Try.func31, Try.ntmps31
  go_wp2_with ((go_at_call 62; refine (l00In_any _ _ _ _).mono ?_; rintro e w' ⟨rfl, rfl⟩); rw [HH8.out])
  go_loopw [6, 21] (fun v i wr => ∃ k : Nat, k ≤ m ∧ i = .int .i64 k ∧ Lst wr w.heap.size v ((pss.take k).map fun p => (bestL p).2) ∧ Below w.heap.size w wr ∧ Hid (∀ j, j < k → handB (pss.getD j []) 5 7 = true)) (fun _ i _ => m - (intOf i).toNat)
  case atStart => exact ⟨0, Nat.zero_le _, rfl, HL0.out, HB0.out, fun j hj => absurd hj (Nat.not_lt_zero j)⟩
  case round =>
    obtain ⟨k, hk, rfl, hO, hb, hall⟩ := hrel
    by_cases hlt : k < m
    · have hkx : k < pss.length := by rw [HL.out]; exact hlt
      obtain ⟨b, o, t, rfl, hbB, ht, hc, hok⟩ := (hR.below hb).at_ hlt
      have hcd := con_getD HE.out ht
      have hst := bsh_step hkx
      rw [hcd] at hst
      have htn := HT.out t (List.mem_of_getElem? ht)
      obtain ⟨hr, hnc, hno⟩ := hok
      have hgr := hb.size
      have hOl : ((pss.take k).map fun p => (bestL p).2).length ≤ 16 := by rw [List.length_map, List.length_take, HL.out]; omega
      cases hh : handB t.xs 5 7
      · have HF := hide (HO.out false (bsh_no hkx (by rw [hcd]; exact hh)))
        have HC := hide (l03Big_any t.A t.n t.c t.xs w.heap.size wr hr htn hnc)
        rw [hh] at HC
        clear hst hkx hcd ht hr hO
        obtain ⟨tA, tn, tc, txs⟩ := t
        simp only at hc HC
        go_wp2_with (go_at_call 58; refine HC.out.mono ?_; rintro e w' ⟨rfl, q, rfl⟩)
        go_ret2
        exact ⟨none, 0, by rw [HF.out.1, HF.out.2]; rfl, by rw [HF.out.2]; exact Own.nil _ _, bdrewN hb _⟩
      · have HG := hide (show handB (pss.getD k []) 5 7 = true by rw [hcd]; exact hh)
        have HC := hide (l03Big_any t.A t.n t.c t.xs w.heap.size wr hr htn hnc)
        have h57 : 5 ≤ t.n ∧ t.n ≤ 7 := by have := hand_len hh; rw [hr.len] at this; omega
        have hfi : Fine t.xs := cards_nodup (hand_cards hh)
        have HC2 := hide (fun q => l03Best_any t.A t.n t.c t.xs w.heap.size (wr.drewN q) (hr.drewN q) hgr h57.1 (by omega) hfi)
        rw [hh] at HC
        have hbv := (best_ok hfi (by rw [hr.len]; exact h57.1)).2.2.2
        obtain ⟨V, hV⟩ := ex_eq (bestL t.xs)
        rw [hV] at HC2 hst hbv
        obtain ⟨S, hS⟩ := ex_eq ((pss.take k).map fun p => (bestL p).2)
        rw [hS] at hst hO hOl
        have HST := hide hst
        clear hst hkx hcd ht hr hfi hV hS h57 hbv
        obtain ⟨tA, tn, tc, txs⟩ := t
        simp only at hc HC HC2
        go_wp2_with fail
        refine HC.out.mono ?_
        rintro e w' ⟨rfl, q, rfl⟩
        go_wp2_with fail
        refine (HC2.out q).mono ?_
        rintro e w2 ⟨vb, rfl, _, hb2⟩
        have hbz := (bdrewN hb q).trans (hb2.mono hgr)
        have hO2 : Lst w2 w.heap.size _ S := hO.below ((bdrewN (Below.refl _ _) q).trans hb2)
        clear hO
        go_wp2_with (at_builtin; refine wpList_app rfl (.tmp 38) (.tmp 40) rfl w.heap.size _ S [V.2] rfl (hO2.alloc _) (some ⟨w2.heap.size, 0, none⟩) 1 1 rfl (rd_one w2 V.2 2) (fun h => by cases h) (by omega) (by simp; have := hbz.size; omega) ?_; intro v4 w4 ho4 hg4 hbk4)
        have hb4 := (hbz.alloc hbz.size (.cells #[.int .i64 V.2] 2)).grown hg4 (by simp; have := hbz.size; omega) (fun k hk => ((hO2.alloc (.cells #[.int .i64 V.2] 2)).blk k hk).1)
        have ho4' : Lst w4 w.heap.size v4 ((pss.take (k + 1)).map fun p => (bestL p).2) := by rw [HST.out]; exact ho4
        clear ho4 hg4 hbk4 hbz hO2
        go_roundw
        case rel => exact ⟨k + 1, by omega, by go_num, ho4', hb4, fun j hj => by rcases Nat.lt_succ_iff_lt_or_eq.1 hj with h | h; exact hall.out j h; rw [h]; exact HG.out⟩
        case measure => simp [intOf]; omega
    · have hkm : k = m := by omega
      have hfo := HO.out true (bsh_all (fun j hj => hall.out j (by rw [hkm, ← HL.out]; exact hj)))
      rw [hkm, List.take_of_length_le (by rw [HL.out]; exact Nat.le_refl _)] at hO
      rw [if_pos rfl] at hfo
      obtain ⟨S, hS⟩ := ex_eq (pss.map fun p => (bestL p).2)
      rw [hS] at hfo hO
      have HF := hide hfo
      clear hS hfo
      obtain ⟨A', c', rfl, ho⟩ := hO.form
      clear hkm hO
      go_wp2
      go_ret2
      exact ⟨A', c', by rw [HF.out.1, HF.out.2]; rfl, by rw [HF.out.2]; exact ho, hb⟩

theorem areWorkers_any (n : Int) (w : World) : Calls Try.prog 63 #[.int .i64 n] w fun e w' => e = .returned (.bool (inB n 1 8)) ∧ w = w' := by
  obtain ⟨E, hE⟩ := ex_eq (inB n 1 8)
  rw [hE]
  have HE := hide hE
  clear hE
  go_enter Try.func63, Try.ntmps63
  go_wp2_with (go_at_call 70; refine (within_any _ _ _ _).mono ?_; rintro e w' ⟨rfl, rfl⟩; rw [HE.out])
  go_ret
  exact ⟨rfl, rfl⟩

set_option maxHeartbeats 4000000 in
theorem impl_BestShared (A : Option Addr) (m c : Nat) (ts : List Sl) (pss : List (List Int)) (kk : Int) (w : World) (hR : RdS w w.heap.size A m ts) (he : con ts = pss) (hm : m ≤ 1048576) (hM : ∀ p ∈ pss, p.length ≤ 1048576) :
    Calls Try.prog 33 #[.slice A m c, .int .i64 kk] w fun e w' => ∃ A' c', e = .returned (.tuple #[.slice A' (bshOut pss kk).length c', .bool (bshOk pss kk)]) ∧ Own w' w.heap.size A' (bshOut pss kk).length c' (bshOut pss kk) ∧ Below w.heap.size w w' := by
  have hl : pss.length = m := by rw [← he, con_len, hR.len]
  have HL := hide hl
  by_cases h16 : m ≤ 16
  rotate_left
  · have hk : bshOk pss kk = false := by simp [bshOk, hl, h16]
    have ho : bshOut pss kk = [] := by simp [bshOut, hk]
    rw [hk, ho]
    clear hk ho hR hl
    go_enter Try.func33, Try.ntmps33
    go_wp2_with fail
    go_ret2
    exact ⟨none, 0, rfl, Own.nil _ _, Below.refl _ _⟩
  cases hw8 : inB kk 1 8
  · have hk : bshOk pss kk = false := by simp [bshOk, hw8]
    have ho : bshOut pss kk = [] := by simp [bshOut, hk]
    rw [hk, ho]
    clear hk ho hR hl
    go_enter Try.func33, Try.ntmps33
    go_wp2_with ((go_at_call 63; refine (areWorkers_any _ _).mono ?_; rintro e w' ⟨rfl, rfl⟩); rw [hw8])
    go_ret2
    exact ⟨none, 0, rfl, Own.nil _ _, Below.refl _ _⟩
  have HO := hide (show ∀ b, (pss.all fun p => handB p 5 7) = b → bshOk pss kk = b ∧ bshOut pss kk = if b = true then pss.map (fun p => (bestL p).2) else [] from fun b hb => by
    have : bshOk pss kk = b := by simp [bshOk, hl, h16, hw8, hb]
    exact ⟨this, by rw [bshOut, this]⟩)
  obtain ⟨KO, hKO⟩ := ex_eq (bshOk pss kk)
  obtain ⟨OUT, hOUT⟩ := ex_eq (bshOut pss kk)
  rw [hKO, hOUT] at HO ⊢
  have HT := hide (show ∀ t ∈ ts, t.n ≤ 1048576 from fun t ht => by
    have h1 := (hR.2.1 t ht).1.len
    rw [← h1]
    exact hM _ (by rw [← he]; exact List.mem_map.2 ⟨t, ht, rfl⟩))
  have HE := hide he
  have HL0 := hide (Lst.new w (Nat.le_refl _))
  have HB0 := hide ((Below.refl w.heap.size w).alloc (Nat.le_refl _) (.cells #[] 2))
  have HH8 := hide hw8
  clear hKO hOUT hM he hl hw8
  go_enter Try.func33, Try.ntmps33
  go_wp2_with ((go_at_call 63; refine (areWorkers_any _ _).mono ?_; rintro e w' ⟨rfl, rfl⟩); rw [HH8.out])
  go_loopw [6, 23] (fun v i wr => ∃ k : Nat, k ≤ m ∧ i = .int .i64 k ∧ Lst wr w.heap.size v ((pss.take k).map fun p => (bestL p).2) ∧ Below w.heap.size w wr ∧ Hid (∀ j, j < k → handB (pss.getD j []) 5 7 = true)) (fun _ i _ => m - (intOf i).toNat)
  case atStart => exact ⟨0, Nat.zero_le _, rfl, HL0.out, HB0.out, fun j hj => absurd hj (Nat.not_lt_zero j)⟩
  case round =>
    obtain ⟨k, hk, rfl, hO, hb, hall⟩ := hrel
    by_cases hlt : k < m
    · have hkx : k < pss.length := by rw [HL.out]; exact hlt
      obtain ⟨b, o, t, rfl, hbB, ht, hc, hok⟩ := (hR.below hb).at_ hlt
      have hcd := con_getD HE.out ht
      have hst := bsh_step hkx
      rw [hcd] at hst
      have htn := HT.out t (List.mem_of_getElem? ht)
      obtain ⟨hr, hnc, hno⟩ := hok
      have hgr := hb.size
      have hOl : ((pss.take k).map fun p => (bestL p).2).length ≤ 16 := by rw [List.length_map, List.length_take, HL.out]; omega
      cases hh : handB t.xs 5 7
      · have HF := hide (HO.out false (bsh_no hkx (by rw [hcd]; exact hh)))
        have HC := hide (impl_BestFive t.A t.n t.c t.xs wr (hr.more hgr) htn hnc)
        rw [hh] at HC
        clear hst hkx hcd ht hr hO
        obtain ⟨tA, tn, tc, txs⟩ := t
        simp only at hc HC
        go_wp2_with (go_at_call 25; refine HC.out.mono ?_; rintro e w2 ⟨Ab, cb, rfl, _, hb2⟩)
        go_ret2
        exact ⟨none, 0, by rw [HF.out.1, HF.out.2]; rfl, by rw [HF.out.2]; exact Own.nil _ _, hb.trans (hb2.mono hgr)⟩
      · have HG := hide (show handB (pss.getD k []) 5 7 = true by rw [hcd]; exact hh)
        have HC := hide (impl_BestFive t.A t.n t.c t.xs wr (hr.more hgr) htn hnc)
        have h57 : 5 ≤ t.n ∧ t.n ≤ 7 := by have := hand_len hh; rw [hr.len] at this; omega
        have hfi : Fine t.xs := cards_nodup (hand_cards hh)
        have hbfv : bfVal t.xs = (bestL t.xs).2 := by simp [bfVal, hh]
        rw [hbfv, hh] at HC
        have HC2 := HC
        clear HC hbfv
        have hbv := (best_ok hfi (by rw [hr.len]; exact h57.1)).2.2.2
        obtain ⟨V, hV⟩ := ex_eq (bestL t.xs)
        rw [hV] at HC2 hst hbv
        obtain ⟨S, hS⟩ := ex_eq ((pss.take k).map fun p => (bestL p).2)
        rw [hS] at hst hO hOl
        have HST := hide hst
        clear hst hkx hcd ht hr hfi hV hS h57 hbv
        obtain ⟨tA, tn, tc, txs⟩ := t
        simp only at hc HC2
        go_wp2_with fail
        refine HC2.out.mono ?_
        rintro e w2 ⟨Ab, cb, rfl, _, hb2⟩
        have hbz := hb.trans (hb2.mono hgr)
        have hO2 : Lst w2 w.heap.size _ S := hO.below hb2
        clear hO
        go_wp2_with (at_builtin; refine wpList_app rfl (.tmp 35) (.tmp 37) rfl w.heap.size _ S [V.2] rfl (hO2.alloc _) (some ⟨w2.heap.size, 0, none⟩) 1 1 rfl (rd_one w2 V.2 2) (fun h => by cases h) (by omega) (by simp; have := hbz.size; omega) ?_; intro v4 w4 ho4 hg4 hbk4)
        have hb4 := (hbz.alloc hbz.size (.cells #[.int .i64 V.2] 2)).grown hg4 (by simp; have := hbz.size; omega) (fun k hk => ((hO2.alloc (.cells #[.int .i64 V.2] 2)).blk k hk).1)
        have ho4' : Lst w4 w.heap.size v4 ((pss.take (k + 1)).map fun p => (bestL p).2) := by rw [HST.out]; exact ho4
        clear ho4 hg4 hbk4 hbz hO2
        go_roundw
        case rel => exact ⟨k + 1, by omega, by go_num, ho4', hb4, fun j hj => by rcases Nat.lt_succ_iff_lt_or_eq.1 hj with h | h; exact hall.out j h; rw [h]; exact HG.out⟩
        case measure => simp [intOf]; omega
    · have hkm : k = m := by omega
      have hfo := HO.out true (bsh_all (fun j hj => hall.out j (by rw [hkm, ← HL.out]; exact hj)))
      rw [hkm, List.take_of_length_le (by rw [HL.out]; exact Nat.le_refl _)] at hO
      rw [if_pos rfl] at hfo
      obtain ⟨S, hS⟩ := ex_eq (pss.map fun p => (bestL p).2)
      rw [hS] at hfo hO
      have HF := hide hfo
      clear hS hfo
      obtain ⟨A', c', rfl, ho⟩ := hO.form
      clear hkm hO
      go_wp2
      go_ret2
      exact ⟨A', c', by rw [HF.out.1, HF.out.2]; rfl, by rw [HF.out.2]; exact ho, hb⟩

end Go.Proofs.Ytlldocdmjeeaaaa.hand
