/-
  DealPiles of both packages makes the same. Conditions: those of each theorem.
-/
import Derived.Test.YtfncmgaeecjacaaApp
import Derived.Test.YtfncmgaeecjacaaDeck
import Derived.Test.YtfncmgaeecjacaaLawM
import Derived.Deep.RegionLaw
namespace Go.Proofs.Ytfncmgaeecjacaa.deck
open Go.RowKit
open base mem grid

/-! ### no program in sight -/
def deal (xs : List Int) (m : Nat) : Nat → List (List Int)
  | 0 => List.replicate m []
  | k + 1 => (deal xs m k).set (k % m) (xs.getD k 0 :: (deal xs m k).getD (k % m) [])
theorem deal_len (xs : List Int) (m k : Nat) : (deal xs m k).length = m := by induction k with | zero => simp [deal] | succ k ih => simp [deal, ih]
theorem totL_set {l : List (List Int)} {i : Nat} {x : Int} (hi : i < l.length) : totL (l.set i (x :: l.getD i [])) = totL l + 1 := by
  unfold totL
  induction l generalizing i with
  | nil => simp at hi
  | cons a l ih =>
    cases i with
    | zero => simp; omega
    | succ i =>
      have := ih (i := i) (by simpa using hi)
      simp only [List.set_cons_succ, List.map_cons, List.sum_cons]
      simp only [List.getD_cons_succ]
      omega
theorem deal_tot {xs : List Int} {m : Nat} (hm : 0 < m) (k : Nat) : totL (deal xs m k) = k := by
  induction k with
  | zero => simp [deal, totL]
  | succ k ih => rw [deal, totL_set (by rw [deal_len]; exact Nat.mod_lt _ hm), ih]
theorem deal_at {xs : List Int} {m k j : Nat} {x : Int} {t : List Int} (hj : k % m = j) (hx : xs.getD k 0 = x) (ht : (deal xs m k)[j]? = some t) : deal xs m (k + 1) = (deal xs m k).set j (x :: t) := by
  rw [deal, hj, hx, List.getD, ht]
  rfl
def dealOk (xs : List Int) (kk : Int) : Bool := deckB xs && inB kk 1 8
def dealOut (xs : List Int) (kk : Int) : List (List Int) := if dealOk xs kk then deal xs kk.toNat xs.length else []
theorem dealOk_b {xs : List Int} {kk : Int} (h : dealOk xs kk = true) : (xs.length ≤ 52) ∧ 1 ≤ kk.toNat ∧ kk.toNat ≤ 8 := by
  unfold dealOk at h
  rw [Bool.and_eq_true] at h
  obtain ⟨h1, h2⟩ := inB_yes h.2
  exact ⟨(deck_len h.1).2, by omega, by omega⟩
theorem dealOut_len (xs : List Int) (kk : Int) : (dealOut xs kk).length ≤ 1048576 := by
  unfold dealOut
  split
  · next h => have := dealOk_b h; rw [deal_len]; omega
  · simp
theorem dealOut_tot (xs : List Int) (kk : Int) : totL (dealOut xs kk) ≤ 1048576 := by
  unfold dealOut
  split
  · next h => have := dealOk_b h; rw [deal_tot (by omega)]; omega
  · simp [totL]
theorem rep_set (m i : Nat) (a : List Int) : (List.replicate m a).set i a = List.replicate m a := by
  apply List.ext_getElem?
  intro k
  rw [List.getElem?_set]
  split
  · next e =>
    subst e
    by_cases h : i < m <;> simp [h]
  · rfl
theorem con_blanks (m : Nat) : con (List.replicate m Sl.blank) = List.replicate m [] := by simp [con, Sl.blank]

set_option maxHeartbeats 4000000 in
theorem spec_DealPiles (A : Option Addr) (n c : Nat) (xs : List Int) (kk : Int) (w : World) (hR : Rd w w.heap.size A n xs) (hn : n ≤ 1048576) (hnc : n ≤ c) :
    Calls Try.prog 30 #[.slice A n c, .int .i64 kk] w fun e w' => ∃ A' c' us, e = .returned (.tuple #[.slice A' (dealOut xs kk).length c', .bool (dealOk xs kk)]) ∧ OwnS w' w.heap.size A' (dealOut xs kk).length c' us ∧ con us = dealOut xs kk ∧ Below w.heap.size w w' := by
  have hL := l02Deck_b A n c xs w hR (by omega) hnc
  cases hD : deckB xs
  · have hK : dealOk xs kk = false := by simp [dealOk, hD]
    have hO : dealOut xs kk = [] := by simp [dealOut, hK]
    rw [hO, hK]
    rw [hD] at hL
    have HL := hide hL
    clear hL hO hK hD hR
    go_enter Try.func30, Try.ntmps30
    go_wp2_with fail
    refine HL.out.mono ?_
    rintro e w' ⟨rfl, hb⟩
    go_wp2
    go_ret2
    exact ⟨none, 0, [], rfl, OwnS.nil _ _, rfl, hb⟩
  cases hin : inB kk 1 8
  · have hK : dealOk xs kk = false := by simp [dealOk, hin]
    have hO : dealOut xs kk = [] := by simp [dealOut, hK]
    rw [hO, hK]
    rw [hD] at hL
    have HL := hide hL
    clear hL hO hK hD hR
    go_enter Try.func30, Try.ntmps30
    go_wp2_with fail
    refine HL.out.mono ?_
    rintro e w' ⟨rfl, hb⟩
    go_wp2_with (go_at_call 68; refine (l00In_any _ _ _ _).mono ?_; rintro e w' ⟨rfl, rfl⟩)
    go_ret2
    exact ⟨none, 0, [], rfl, OwnS.nil _ _, rfl, hb⟩
  obtain ⟨hm1, hm2⟩ := inB_yes hin
  obtain ⟨m, rfl⟩ := Int.eq_ofNat_of_zero_le (show 0 ≤ kk by omega)
  have hK : dealOk xs m = true := by simp [dealOk, hD, hin]
  have hO : dealOut xs m = deal xs m n := by simp [dealOut, hK, hR.len]
  obtain ⟨hd1, hd2⟩ := deck_len hD
  rw [hR.len] at hd1 hd2
  rw [hO, hK, deal_len]
  rw [hD] at hL
  have HL := hide hL
  obtain ⟨i0, hi, hz0, hz1, hz2⟩ := info_parts info_row
  have hz2' : i0.bytes * m ≤ 281474976710656 := by rw [hz2]; omega
  have hmp : 1 ≤ m := by omega
  have hm8 : m ≤ 8 := by omega
  clear hL hO hK hD hz2
  go_enter Try.func30, Try.ntmps30
  go_wp2_with fail
  refine HL.out.mono ?_
  rintro e v1 ⟨rfl, hb⟩
  have hR1 := hR.below hb
  have hz := hb.size
  clear hR HL
  go_wp2_with (first | (go_at_call 68; refine (l00In_any _ _ _ _).mono ?_; rintro e w' ⟨rfl, rfl⟩) | (at_make; refine wpList_make_full _ rfl (.tmp 17) (.tmp 17) 36 rfl w.heap.size 22 i0 (.slice none 0 0) 1 Try.underlying36 hi hz0 hz1 .i64 .i64 _ _ m rfl rfl rfl rfl hz2' (by unfold maxLen; omega) hz ?_; intro w1 hown hgr))
  have hb1 : Below w.heap.size v1 w1 := (Below.refl _ _).grown hgr hz (fun _ h => by cases h)
  have hown1 : OwnS w1 w.heap.size (some ⟨v1.heap.size, 0, none⟩) m m (List.replicate m Sl.blank) := by
    refine blanks_own _ _ _ _ _ ?_
    simpa [Value.cells, toList_madeCells_one, vals, Sl.val, Sl.blank] using hown
  have hb01 := hb.trans hb1
  clear hown hgr hz2' hi hz0 hz1 hb1
  generalize hg : w.heap.size = g at *
  have HG := hide hg
  clear hg
  generalize hgg : v1.heap.size = gg at *
  clear hgg
  go_loopw [7] (fun i wr => ∃ (k : Nat) (us : List Sl), k ≤ m ∧ i = .int .i64 k ∧ OwnS wr g (some ⟨gg, 0, none⟩) m m us ∧ Hid (con us = List.replicate m []) ∧ Below g w wr) (fun i _ => m - (intOf i).toNat)
  case atStart => exact ⟨0, _, Nat.zero_le _, rfl, hown1, con_blanks m, hb01⟩
  case round =>
    obtain ⟨k, us, hk, rfl, hown, hcon, hbr⟩ := hrel
    have hgr : g ≤ wr.heap.size := by have := hbr.size; rw [HG.out] at this; exact this
    by_cases hlt : k < m
    · obtain ⟨gg', t, hgg, hgw, hgB, ht, hc2, ho, hf2⟩ := own_cells hown hlt
      obtain rfl : gg = gg' := by simpa using hgg
      have hb2 : Below wr.heap.size wr (wr.alloc (.cells #[] 2)) := (Below.refl _ _).alloc (Nat.le_refl _) _
      have hc2' := (hb2.cell (p := ⟨gg, k, none⟩) hgw).trans hc2
      have hf2' := (hb2.frozen (p := ⟨gg, k, none⟩) hgw).trans hf2
      obtain ⟨hp1, hp2⟩ := OwnS.put (u := Sl.mk (some ⟨wr.heap.size, 0, none⟩) 0 0 []) (i := k) hown hb2 (Lst.new wr (Nat.le_refl _)) hgr
      rw [World.setCell_alloc_past _ _ _ _ hgw] at hp1 hp2
      have HC2 := hide (show con (us.set k (Sl.mk (some ⟨wr.heap.size, 0, none⟩) 0 0 [])) = List.replicate m [] by rw [con_set, hcon.out]; exact rep_set m k [])
      have HB3 := hide ((hb2.mono hgr).grown hp2 (Nat.le_trans hgr hb2.size) (fun q hq => by cases hq; exact hgB))
      have HP1 := hide hp1
      clear hp1 hp2 hown hown1 hgg ho ht hR1
      obtain ⟨tA, tn, tc, txs⟩ := t
      simp only at hc2 hc2'
      go_wp2
      go_roundw
      case rel => exact ⟨k + 1, _, by omega, by go_num, HP1.out, HC2, hbr.trans HB3.out⟩
      case measure => simp [intOf]; omega
    obtain rfl : m = k := by omega
    go_wp2
    have hown2 := hown
    have HCON2 := hide hcon.out
    have hbr2 := hbr
    clear hown hcon hbr hgr
    go_loopw [8] (fun i wr => ∃ (k : Nat) (us : List Sl), k ≤ n ∧ i = .int .i64 k ∧ OwnS wr g (some ⟨gg, 0, none⟩) m m us ∧ Hid (con us = deal xs m k) ∧ Below g w wr) (fun i _ => n - (intOf i).toNat)
    case atStart => exact ⟨0, _, Nat.zero_le _, rfl, hown2, HCON2.out, hbr2⟩
    case round =>
      obtain ⟨k, us, hk, rfl, hown, hcon, hbr⟩ := hrel
      have hgr : g ≤ wr.heap.size := by have := hbr.size; rw [HG.out] at this; exact this
      by_cases hlt : k < n
      · have hRw : Rd wr g A n xs := hR1.keep fun p hp => by rw [hbr.cell hp, hb.cell hp]
        obtain ⟨b, o, rfl, hbB, hc⟩ := hRw.at_ hlt
        obtain ⟨x, hx⟩ := ex_eq (xs.getD k 0)
        rw [hx] at hc
        obtain ⟨j, hj⟩ := ex_eq (k % m)
        have hjm : j < m := by rw [← hj]; exact Nat.mod_lt _ (by omega)
        have hj2 : (k : Int) % (m : Int) = (j : Int) := by rw [← Int.natCast_emod, hj]
        have hj3 : (k : Int).tmod (m : Int) = (j : Int) := by rw [Int.tmod_eq_emod_of_nonneg (by omega), hj2]
        have hm0 : ¬ (m : Int) = 0 := by omega
        have hm00 : ¬ m = 0 := by omega
        obtain ⟨gg', t, hgg, hgw, hgB, ht, hc2, ho, hf2⟩ := own_cells hown hjm
        obtain rfl : gg = gg' := by simpa using hgg
        have HD := hide (deal_at hj hx (by rw [← hcon.out]; exact con_at ht))
        have htl : t.n ≤ 52 := by
          have h1 := (own_ok ho).1.len
          have h2 := le_tot (List.mem_of_getElem? ht)
          rw [rd_tot hown.rd hcon.out, deal_tot (by omega)] at h2
          omega
        have hok := own_ok ho
        have hbw : b < wr.heap.size := Nat.lt_of_lt_of_le hbB hgr
        have f1 : (0 : Int) ≤ (j : Int) := by omega
        have f2 : (j : Int) < (m : Int) := by omega
        clear hx hj hRw hR1 hown1 hgg ho ht hj2
        obtain ⟨tA, tn, tc, txs⟩ := t
        obtain ⟨hok1, hok2, hok3⟩ := hok
        simp only at hc2 htl HD hok1 hok2 hok3
        go_upto_region 11 with fail
        go_region_law ((refine step_app rfl (.tmp 42) (.tmp 48) rfl wr.heap.size _ [x] txs rfl ((Lst.one wr (Nat.le_refl _) x).drewN 1) tA tn tc rfl (((hok1.alloc (Nat.le_refl _) _).drewN 1).more (by simp)) hok3 (by simp; omega) (by simp) ?_; intro v2 w2 ho2 hg2 _; have hb2 : Below wr.heap.size wr w2 := (below_drewN ((Below.refl _ _).alloc (Nat.le_refl _) _) 1).trans (((Lst.one wr (Nat.le_refl _) x).drewN 1).grown hg2 (by simp)); have hc2' := (hb2.cell (p := ⟨gg, j, none⟩) hgw).trans hc2; have hf2' := (hb2.frozen (p := ⟨gg, j, none⟩) hgw).trans hf2; obtain ⟨A2, c2, rfl, hu⟩ := ho2.formn (n := tn + 1) (by rw [List.length_append, hok1.len]; simp; omega)))
        all_goals
          obtain ⟨hp1, hp2⟩ := OwnS.put (u := Sl.mk A2 (tn + 1) c2 ([x] ++ txs)) (i := j) hown hb2 hu hgr
          have hcon2 : con (us.set j (Sl.mk A2 (tn + 1) c2 ([x] ++ txs))) = deal xs m (k + 1) := by rw [con_set, hcon.out, HD.out]; rfl
          have HC2 := hide hcon2
          have hb3 : Below g wr _ := (hb2.mono hgr).grown hp2 (Nat.le_trans hgr hb2.size) (fun q hq => by cases hq; exact hgB)
          clear hcon2 hp2 hown hu ho2
          go_wp2
          go_roundw
          case rel => exact ⟨k + 1, _, by omega, by go_num, hp1, HC2, hbr.trans hb3⟩
          case measure => simp [intOf]; omega
      · obtain rfl : k = n := by omega
        go_wp2
        go_ret2
        exact ⟨_, _, us, rfl, by rw [HG.out]; exact hown, hcon.out, by rw [HG.out]; exact hbr⟩

set_option maxHeartbeats 4000000 in
theorem impl_DealPiles (A : Option Addr) (n c : Nat) (xs : List Int) (kk : Int) (w : World) (hR : Rd w w.heap.size A n xs) (hn : n ≤ 1048576) (hnc : n ≤ c) :
    Calls Try.prog 31 #[.slice A n c, .int .i64 kk] w fun e w' => ∃ A' c' us, e = .returned (.tuple #[.slice A' (dealOut xs kk).length c', .bool (dealOk xs kk)]) ∧ OwnS w' w.heap.size A' (dealOut xs kk).length c' us ∧ con us = dealOut xs kk ∧ Below w.heap.size w w' := by
  have hL := IsDeck_b A n c xs w hR (by omega) hnc
  cases hD : deckB xs
  · have hK : dealOk xs kk = false := by simp [dealOk, hD]
    have hO : dealOut xs kk = [] := by simp [dealOut, hK]
    rw [hO, hK]
    rw [hD] at hL
    have HL := hide hL
    clear hL hO hK hD hR
    go_enter Try.func31, Try.ntmps31
    go_wp2_with fail
    refine HL.out.mono ?_
    rintro e w' ⟨rfl, hb⟩
    go_wp2
    go_ret2
    exact ⟨none, 0, [], rfl, OwnS.nil _ _, rfl, hb⟩
  cases hin : inB kk 1 8
  · have hK : dealOk xs kk = false := by simp [dealOk, hin]
    have hO : dealOut xs kk = [] := by simp [dealOut, hK]
    rw [hO, hK]
    rw [hD] at hL
    have HL := hide hL
    clear hL hO hK hD hR
    go_enter Try.func31, Try.ntmps31
    go_wp2_with fail
    refine HL.out.mono ?_
    rintro e w' ⟨rfl, hb⟩
    go_wp2_with (go_at_call 69; refine (within_any _ _ _ _).mono ?_; rintro e w' ⟨rfl, rfl⟩)
    go_ret2
    exact ⟨none, 0, [], rfl, OwnS.nil _ _, rfl, hb⟩
  obtain ⟨hm1, hm2⟩ := inB_yes hin
  obtain ⟨m, rfl⟩ := Int.eq_ofNat_of_zero_le (show 0 ≤ kk by omega)
  have hK : dealOk xs m = true := by simp [dealOk, hD, hin]
  have hO : dealOut xs m = deal xs m n := by simp [dealOut, hK, hR.len]
  obtain ⟨hd1, hd2⟩ := deck_len hD
  rw [hR.len] at hd1 hd2
  rw [hO, hK, deal_len]
  rw [hD] at hL
  have HL := hide hL
  obtain ⟨i0, hi, hz0, hz1, hz2⟩ := info_parts info_row
  have hz2' : i0.bytes * m ≤ 281474976710656 := by rw [hz2]; omega
  have hmp : 1 ≤ m := by omega
  have hm8 : m ≤ 8 := by omega
  clear hL hO hK hD hz2
  go_enter Try.func31, Try.ntmps31
  go_wp2_with fail
  refine HL.out.mono ?_
  rintro e v1 ⟨rfl, hb⟩
  have hR1 := hR.below hb
  have hz := hb.size
  clear hR HL
  go_wp2_with (first | (go_at_call 69; refine (within_any _ _ _ _).mono ?_; rintro e w' ⟨rfl, rfl⟩) | (at_make; refine wpList_make_full _ rfl (.tmp 18) (.tmp 18) 36 rfl w.heap.size 22 i0 (.slice none 0 0) 1 Try.underlying36 hi hz0 hz1 .i64 .i64 _ _ m rfl rfl rfl rfl hz2' (by unfold maxLen; omega) hz ?_; intro w1 hown hgr))
  have hb1 : Below w.heap.size v1 w1 := (Below.refl _ _).grown hgr hz (fun _ h => by cases h)
  have hown1 : OwnS w1 w.heap.size (some ⟨v1.heap.size, 0, none⟩) m m (List.replicate m Sl.blank) := by
    refine blanks_own _ _ _ _ _ ?_
    simpa [Value.cells, toList_madeCells_one, vals, Sl.val, Sl.blank] using hown
  have hb01 := hb.trans hb1
  clear hown hgr hz2' hi hz0 hz1 hb1
  generalize hg : w.heap.size = g at *
  have HG := hide hg
  clear hg
  generalize hgg : v1.heap.size = gg at *
  clear hgg
  go_loopw [7, 8, 9, 22] (fun _ _ _ i wr => ∃ (k : Nat) (us : List Sl), k ≤ n ∧ i = .int .i64 k ∧ OwnS wr g (some ⟨gg, 0, none⟩) m m us ∧ Hid (con us = deal xs m k) ∧ Below g w wr) (fun _ _ _ i _ => n - (intOf i).toNat)
  case atStart => exact ⟨0, _, Nat.zero_le _, rfl, hown1, con_blanks m, hb01⟩
  case round =>
    obtain ⟨k, us, hk, rfl, hown, hcon, hbr⟩ := hrel
    have hgr : g ≤ wr.heap.size := by have := hbr.size; rw [HG.out] at this; exact this
    by_cases hlt : k < n
    · have hRw : Rd wr g A n xs := hR1.keep fun p hp => by rw [hbr.cell hp, hb.cell hp]
      obtain ⟨b, o, rfl, hbB, hc⟩ := hRw.at_ hlt
      obtain ⟨x, hx⟩ := ex_eq (xs.getD k 0)
      rw [hx] at hc
      obtain ⟨j, hj⟩ := ex_eq (k % m)
      have hjm : j < m := by rw [← hj]; exact Nat.mod_lt _ (by omega)
      have hj2 : (k : Int) % (m : Int) = (j : Int) := by rw [← Int.natCast_emod, hj]
      have hj3 : (k : Int).tmod (m : Int) = (j : Int) := by rw [Int.tmod_eq_emod_of_nonneg (by omega), hj2]
      have hm0 : ¬ (m : Int) = 0 := by omega
      have hm00 : ¬ m = 0 := by omega
      obtain ⟨gg', t, hgg, hgw, hgB, ht, hc2, ho, hf2⟩ := own_cells hown hjm
      obtain rfl : gg = gg' := by simpa using hgg
      have HD := hide (deal_at hj hx (by rw [← hcon.out]; exact con_at ht))
      have htl : t.n ≤ 52 := by
        have h1 := (own_ok ho).1.len
        have h2 := le_tot (List.mem_of_getElem? ht)
        rw [rd_tot hown.rd hcon.out, deal_tot (by omega)] at h2
        omega
      have hok := own_ok ho
      have hbw : b < wr.heap.size := Nat.lt_of_lt_of_le hbB hgr
      have f1 : (0 : Int) ≤ (j : Int) := by omega
      have f2 : (j : Int) < (m : Int) := by omega
      clear hx hj hRw hR1 hown1 hgg ho ht hj2
      obtain ⟨tA, tn, tc, txs⟩ := t
      obtain ⟨hok1, hok2, hok3⟩ := hok
      simp only at hc2 htl HD hok1 hok2 hok3
      go_wp2_with (at_builtin; refine wpList_app rfl (.tmp 33) (.tmp 37) rfl wr.heap.size _ [x] txs rfl (Lst.one wr (Nat.le_refl _) x) tA tn tc rfl ((hok1.alloc (Nat.le_refl _) _).more (by simp)) hok3 (by simp; omega) (by simp) ?_; intro v2 w2 ho2 hg2 _; have hb2 : Below wr.heap.size wr w2 := ((Below.refl _ _).alloc (Nat.le_refl _) _).trans ((Lst.one wr (Nat.le_refl _) x).grown hg2 (by simp)); have hc2' := (hb2.cell (p := ⟨gg, j, none⟩) hgw).trans hc2; have hf2' := (hb2.frozen (p := ⟨gg, j, none⟩) hgw).trans hf2; obtain ⟨A2, c2, rfl, hu⟩ := ho2.formn (n := tn + 1) (by rw [List.length_append, hok1.len]; simp; omega))
      all_goals
        obtain ⟨hp1, hp2⟩ := OwnS.put (u := Sl.mk A2 (tn + 1) c2 ([x] ++ txs)) (i := j) hown hb2 hu hgr
        have hcon2 : con (us.set j (Sl.mk A2 (tn + 1) c2 ([x] ++ txs))) = deal xs m (k + 1) := by rw [con_set, hcon.out, HD.out]; rfl
        have HC2 := hide hcon2
        have hb3 : Below g wr _ := (hb2.mono hgr).grown hp2 (Nat.le_trans hgr hb2.size) (fun q hq => by cases hq; exact hgB)
        clear hcon2 hp2 hown hu ho2
        go_wp2
        go_roundw
        case rel => exact ⟨k + 1, _, by omega, by go_num, hp1, HC2, hbr.trans hb3⟩
        case measure => simp [intOf]; omega
    · obtain rfl : k = n := by omega
      go_wp2
      go_ret2
      exact ⟨_, _, us, rfl, by rw [HG.out]; exact hown, hcon.out, by rw [HG.out]; exact hbr⟩

end Go.Proofs.Ytfncmgaeecjacaa.deck
