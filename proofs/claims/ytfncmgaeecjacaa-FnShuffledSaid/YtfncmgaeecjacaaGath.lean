/-
  GatherPiles of both packages makes the same. Conditions: those of each theorem.
-/
import Derived.Test.YtfncmgaeecjacaaApp
import Derived.Test.YtfncmgaeecjacaaDeck
import Derived.Test.YtfncmgaeecjacaaLawM
namespace Go.Proofs.Ytfncmgaeecjacaa.deck
open Go.RowKit
open base mem grid

/-! ### no program in sight -/
def pileAt (pss : List (List Int)) (os : List Int) (j : Nat) : List Int := pss.getD (os.getD j 0).toNat []
def gat (pss : List (List Int)) (os : List Int) : Nat → List Int
  | 0 => []
  | k + 1 => gat pss os k ++ pileAt pss os k
def goodG (pss : List (List Int)) (os : List Int) (j : Nat) : Bool := decide ((pileAt pss os j).length ≤ 52)
def gatP (pss : List (List Int)) (os : List Int) : Bool := decide (1 ≤ pss.length ∧ pss.length ≤ 8) && (decide (os.length = pss.length) && ordB os)
def gatOk (pss : List (List Int)) (os : List Int) : Bool := gatP pss os && ((List.range os.length).all (goodG pss os) && deckB (gat pss os os.length))
def gatOut (pss : List (List Int)) (os : List Int) : List Int := if gatOk pss os then gat pss os os.length else []
theorem gatOut_len (pss : List (List Int)) (os : List Int) : (gatOut pss os).length ≤ 1048576 := by
  unfold gatOut
  split
  · next h =>
    unfold gatOk at h
    simp only [Bool.and_eq_true] at h
    have := (deck_len h.2.2).2
    omega
  · simp
theorem gat_len {pss : List (List Int)} {os : List Int} {k : Nat} (h : ∀ j, j < k → goodG pss os j = true) : (gat pss os k).length ≤ 52 * k := by
  induction k with
  | zero => simp [gat]
  | succ k ih =>
    have h1 := h k (by omega)
    unfold goodG at h1
    have h2 := of_decide_eq_true h1
    have h3 := ih (fun j hj => h j (by omega))
    rw [gat, List.length_append]
    omega
theorem gat_noP {pss : List (List Int)} {os : List Int} (h : gatP pss os = false) : gatOk pss os = false := by simp [gatOk, h]
theorem gat_noG {pss : List (List Int)} {os : List Int} {j : Nat} (hj : j < os.length) (h : goodG pss os j = false) : gatOk pss os = false := by
  unfold gatOk
  have : (List.range os.length).all (goodG pss os) = false := by
    rw [List.all_eq_false]
    exact ⟨j, List.mem_range.2 hj, by simp [h]⟩
  simp [this]
theorem gat_noD {pss : List (List Int)} {os : List Int} {n : Nat} (hn : os.length = n) (h : deckB (gat pss os n) = false) : gatOk pss os = false := by subst hn; simp [gatOk, h]
theorem gat_yes {pss : List (List Int)} {os : List Int} {n : Nat} (hn : os.length = n) (hP : gatP pss os = true) (hg : ∀ j, j < n → goodG pss os j = true) (h : deckB (gat pss os n) = true) : gatOk pss os = true := by
  subst hn
  unfold gatOk
  rw [hP, h, Bool.and_true, Bool.true_and, List.all_eq_true]
  intro j hj
  exact hg j (List.mem_range.1 hj)
theorem gat_out_no {pss : List (List Int)} {os : List Int} (h : gatOk pss os = false) : gatOut pss os = [] := by simp [gatOut, h]
theorem gat_out_yes {pss : List (List Int)} {os : List Int} {n : Nat} (hn : os.length = n) (h : gatOk pss os = true) : gatOut pss os = gat pss os n := by subst hn; simp [gatOut, h]
theorem l02Orders_b (A : Option Addr) (n c m : Nat) (xs : List Int) (w : World) (hR : Rd w w.heap.size A n xs) (hn : n ≤ 9223372036854775807) (hnc : n ≤ c) (hm : m ≤ 9223372036854775807) :
    Calls Try.prog 73 #[.slice A n c, .int .i64 m] w fun e w' => e = .returned (.bool (decide (n = m) && ordB xs)) ∧ Below w.heap.size w w' :=
  (l02Orders_any A n c m xs _ w hR hn hnc hm).mono fun _ _ ⟨he, q, hq⟩ => ⟨he, by rw [hq]; exact below_drewN (Below.refl _ _) q⟩

set_option maxHeartbeats 4000000 in
theorem spec_GatherPiles (A : Option Addr) (m c : Nat) (ts : List Sl) (pss : List (List Int)) (A1 : Option Addr) (n1 c1 : Nat) (os : List Int) (w : World) (hR : RdS w w.heap.size A m ts) (he : con ts = pss) (hm : m ≤ 1048576) (_hM : ∀ p ∈ pss, p.length ≤ 1048576) (hR1 : Rd w w.heap.size A1 n1 os) (hn1 : n1 ≤ 1048576) (hnc1 : n1 ≤ c1) :
    Calls Try.prog 36 #[.slice A m c, .slice A1 n1 c1] w fun e w' => ∃ A' c', e = .returned (.tuple #[.slice A' (gatOut pss os).length c', .bool (gatOk pss os)]) ∧ Own w' w.heap.size A' (gatOut pss os).length c' (gatOut pss os) ∧ Below w.heap.size w w' := by
  have hpl : pss.length = m := by rw [← he, con_len, hR.len]
  have hol := hR1.len
  by_cases hs : m < 1
  · have hO : gatOk pss os = false := gat_noP (by unfold gatP; rw [hpl, decide_eq_false (by omega), Bool.false_and])
    rw [gat_out_no hO, hO]
    clear hO hpl hol hR hR1 he
    go_enter Try.func36, Try.ntmps36
    go_wp2
    go_ret2
    exact ⟨none, 0, rfl, Own.nil _ _, Below.refl _ _⟩
  by_cases hl : 8 < m
  · have hO : gatOk pss os = false := gat_noP (by unfold gatP; rw [hpl, decide_eq_false (by omega), Bool.false_and])
    rw [gat_out_no hO, hO]
    clear hO hpl hol hR hR1 he
    go_enter Try.func36, Try.ntmps36
    go_wp2
    go_ret2
    exact ⟨none, 0, rfl, Own.nil _ _, Below.refl _ _⟩
  have hP : gatP pss os = (decide (n1 = m) && ordB os) := by unfold gatP; rw [hpl, hol, decide_eq_true (by omega), Bool.true_and]
  cases hord : (decide (n1 = m) && ordB os)
  · have hO : gatOk pss os = false := gat_noP (hP.trans hord)
    have hC := l02Orders_b A1 n1 c1 m os w hR1 (by omega) hnc1 (by omega)
    rw [hord] at hC
    rw [gat_out_no hO, hO]
    have HC := hide hC
    clear hC hO hpl hol hR hR1 he hP hord
    go_enter Try.func36, Try.ntmps36
    go_wp2_with (go_at_call 73; refine HC.out.mono ?_; rintro e v1 ⟨rfl, hb⟩)
    go_ret2
    exact ⟨none, 0, rfl, Own.nil _ _, hb⟩
  · have hC := l02Orders_b A1 n1 c1 m os w hR1 (by omega) hnc1 (by omega)
    rw [hord] at hC
    have hord' := hord
    rw [Bool.and_eq_true, decide_eq_true_eq] at hord'
    obtain ⟨hnm, hordB⟩ := hord'
    subst hnm
    have HC := hide hC
    obtain ⟨R, hRe⟩ := ex_eq (gatOut pss os)
    obtain ⟨K, hKe⟩ := ex_eq (gatOk pss os)
    rw [hRe, hKe]
    have HRE := hide hRe
    have HKE := hide hKe
    have HP := hide (hP.trans hord)
    have HORD := hide hordB
    have HPL := hide hpl
    have HOL := hide hol
    have HE := hide he
    clear hC hpl hol he hP hord hRe hKe hordB
    go_enter Try.func36, Try.ntmps36
    go_wp2_with (go_at_call 73; refine HC.out.mono ?_; rintro e v1 ⟨rfl, hb⟩)
    have hz := hb.size
    generalize hg : w.heap.size = g at *
    have HG := hide hg
    clear hg
    go_loopw [6, 7] (fun v i wr => ∃ k : Nat, k ≤ n1 ∧ i = .int .i64 k ∧ Lst wr g v (gat pss os k) ∧ Below g w wr ∧ Hid (∀ j, j < k → goodG pss os j = true)) (fun _ i _ => n1 - (intOf i).toNat)
    case atStart => exact ⟨0, Nat.zero_le _, rfl, Lst.new _ hz, hb.alloc hz _, fun j hj => absurd hj (Nat.not_lt_zero j)⟩
    case round =>
      obtain ⟨k, hk, rfl, hown, hbr, hgood⟩ := hrel
      have hgr : g ≤ wr.heap.size := by have := hbr.size; rw [HG.out] at this; exact this
      by_cases hlt : k < n1
      · obtain ⟨b1, o1, rfl, hbB1, hc1⟩ := (hR1.below hbr).at_ hlt
        obtain ⟨j, hj, hjx⟩ := deck_card HORD.out (show k < os.length by rw [HOL.out]; exact hlt)
        have hjm : j < n1 := by rw [HOL.out] at hjx; exact hjx
        rw [hj] at hc1
        obtain ⟨b, o, t, rfl, hbB, ht, hc, hok⟩ := (hR.below hbr).at_ hjm
        have hpile : pileAt pss os k = t.xs := by
          have h1 := con_at ht
          rw [HE.out] at h1
          unfold pileAt
          rw [hj, Int.toNat_natCast, List.getD, h1]
          rfl
        have hS : gat pss os (k + 1) = gat pss os k ++ t.xs := by rw [gat, hpile]
        have hgk : goodG pss os k = decide (t.n ≤ 52) := by unfold goodG; rw [hpile, hok.1.len]
        have hgl := gat_len hgood.out
        have hbw : b < wr.heap.size := Nat.lt_of_lt_of_le hbB hgr
        have hbw1 : b1 < wr.heap.size := Nat.lt_of_lt_of_le hbB1 hgr
        have HS := hide hS
        obtain ⟨tA, tn, tc, txs⟩ := t
        obtain ⟨hok1, hok2, hok3⟩ := hok
        simp only at hc hgk HS hok1 hok2 hok3
        have f1 : (0 : Int) ≤ (j : Int) := by omega
        have f2 : (j : Int) < (n1 : Int) := by omega
        by_cases h52 : tn ≤ 52
        · have HG2 := hide (show ∀ j, j < k + 1 → goodG pss os j = true from fun j hj => by
            rcases Nat.lt_succ_iff_lt_or_eq.1 hj with h | h
            · exact hgood.out j h
            · rw [h, hgk, decide_eq_true h52])
          clear hS hpile hgk ht hj hjx hR hR1
          go_wp2_with (first | (at_builtin; refine wpList_app rfl (.tmp 39) (.tmp 46) rfl g _ (gat pss os k) txs rfl hown tA tn tc rfl (hok1.more hgr) hok3 (by omega) hgr ?_; intro v4 w4 ho4 hg4 _) | go_in)
          have hb4 : Below g wr w4 := hown.grown hg4 hgr
          have ho4' : Lst w4 g v4 (gat pss os (k + 1)) := by rw [HS.out]; exact ho4
          clear hg4 ho4 hown
          go_wp2
          go_roundw
          case rel => exact ⟨k + 1, hlt, by go_num, ho4', hbr.trans hb4, HG2⟩
          case measure => simp [intOf]; omega
        · have hO := gat_noG (show k < os.length by rw [HOL.out]; exact hlt) (hgk.trans (decide_eq_false h52))
          have HN := hide hO
          clear hS hpile hgk ht hj hjx hR hR1 hO
          go_wp2
          go_ret2
          rw [← HKE.out, ← HRE.out, gat_out_no HN.out, HN.out]
          exact ⟨none, 0, rfl, Own.nil _ _, by rw [HG.out]; exact hbr⟩
      · obtain rfl : k = n1 := by omega
        have hgl := gat_len hgood.out
        obtain ⟨A', c', rfl, ho⟩ := hown.form
        have hD := l02Deck_b A' _ c' (gat pss os k) wr ho.rd (by omega) ho.cap.1
        cases hdk : deckB (gat pss os k)
        · have HN := hide (gat_noD HOL.out hdk)
          rw [hdk] at hD
          have HD := hide hD
          clear hD hdk
          go_wp2_with (go_at_call 67; refine HD.out.mono ?_; rintro e v2 ⟨rfl, hb2⟩)
          go_ret2
          rw [← HKE.out, ← HRE.out, gat_out_no HN.out, HN.out]
          exact ⟨none, 0, rfl, Own.nil _ _, by rw [HG.out]; exact hbr.trans (hb2.mono hgr)⟩
        · have HY := hide (gat_yes HOL.out HP.out hgood.out hdk)
          rw [hdk] at hD
          have HD := hide hD
          clear hD hdk
          go_wp2_with (go_at_call 67; refine HD.out.mono ?_; rintro e v2 ⟨rfl, hb2⟩)
          go_ret2
          rw [← HKE.out, ← HRE.out, gat_out_yes HOL.out HY.out, HY.out]
          exact ⟨A', c', rfl, by rw [HG.out]; exact ho.below hb2 (Nat.le_refl _), by rw [HG.out]; exact hbr.trans (hb2.mono hgr)⟩

set_option maxHeartbeats 4000000 in
theorem impl_GatherPiles (A : Option Addr) (m c : Nat) (ts : List Sl) (pss : List (List Int)) (A1 : Option Addr) (n1 c1 : Nat) (os : List Int) (w : World) (hR : RdS w w.heap.size A m ts) (he : con ts = pss) (hm : m ≤ 1048576) (_hM : ∀ p ∈ pss, p.length ≤ 1048576) (hR1 : Rd w w.heap.size A1 n1 os) (hn1 : n1 ≤ 1048576) (hnc1 : n1 ≤ c1) :
    Calls Try.prog 38 #[.slice A m c, .slice A1 n1 c1] w fun e w' => ∃ A' c', e = .returned (.tuple #[.slice A' (gatOut pss os).length c', .bool (gatOk pss os)]) ∧ Own w' w.heap.size A' (gatOut pss os).length c' (gatOut pss os) ∧ Below w.heap.size w w' := by
  have hpl : pss.length = m := by rw [← he, con_len, hR.len]
  have hol := hR1.len
  by_cases hs : m < 1
  · have hO : gatOk pss os = false := gat_noP (by unfold gatP; rw [hpl, decide_eq_false (by omega), Bool.false_and])
    rw [gat_out_no hO, hO]
    clear hO hpl hol hR hR1 he
    go_enter Try.func38, Try.ntmps38
    go_wp2
    go_ret2
    exact ⟨none, 0, rfl, Own.nil _ _, Below.refl _ _⟩
  by_cases hl : 8 < m
  · have hO : gatOk pss os = false := gat_noP (by unfold gatP; rw [hpl, decide_eq_false (by omega), Bool.false_and])
    rw [gat_out_no hO, hO]
    clear hO hpl hol hR hR1 he
    go_enter Try.func38, Try.ntmps38
    go_wp2
    go_ret2
    exact ⟨none, 0, rfl, Own.nil _ _, Below.refl _ _⟩
  by_cases hne : n1 = m
  rotate_left
  · have hO : gatOk pss os = false := gat_noP (by unfold gatP; rw [hpl, hol, decide_eq_false hne, Bool.false_and, Bool.and_false])
    rw [gat_out_no hO, hO]
    have hq : ((n1 : Int) != (m : Int)) = true := by rw [bne_iff_ne]; omega
    clear hO hpl hol hR hR1 he
    go_enter Try.func38, Try.ntmps38
    go_wp2
    go_ret2
    exact ⟨none, 0, rfl, Own.nil _ _, Below.refl _ _⟩
  have hP : gatP pss os = (decide (n1 = m) && ordB os) := by unfold gatP; rw [hpl, hol, decide_eq_true (by omega), Bool.true_and]
  cases hord : (decide (n1 = m) && ordB os)
  · have hO : gatOk pss os = false := gat_noP (hP.trans hord)
    have hC := isOrder_any A1 n1 c1 os w hR1 (by omega)
    rw [show ordB os = (decide (n1 = m) && ordB os) by rw [decide_eq_true hne, Bool.true_and], hord] at hC
    rw [gat_out_no hO, hO]
    have HC := hide hC
    have hq2 : ((n1 : Int) != (m : Int)) = false := by rw [hne]; simp
    clear hne
    clear hC hO hpl hol hR hR1 he hP hord
    go_enter Try.func38, Try.ntmps38
    go_wp2_with (go_at_call 74; refine HC.out.mono ?_; rintro e v1 ⟨rfl, hb⟩)
    go_ret2
    exact ⟨none, 0, rfl, Own.nil _ _, hb⟩
  · have hC := isOrder_any A1 n1 c1 os w hR1 (by omega)
    rw [show ordB os = (decide (n1 = m) && ordB os) by rw [decide_eq_true hne, Bool.true_and], hord] at hC
    have hord' := hord
    rw [Bool.and_eq_true, decide_eq_true_eq] at hord'
    obtain ⟨hnm, hordB⟩ := hord'
    subst hnm
    have HC := hide hC
    obtain ⟨R, hRe⟩ := ex_eq (gatOut pss os)
    obtain ⟨K, hKe⟩ := ex_eq (gatOk pss os)
    rw [hRe, hKe]
    have HRE := hide hRe
    have HKE := hide hKe
    have HP := hide (hP.trans hord)
    have HORD := hide hordB
    have HPL := hide hpl
    have HOL := hide hol
    have HE := hide he
    clear hC hpl hol he hP hord hRe hKe hordB
    go_enter Try.func38, Try.ntmps38
    go_wp2_with (go_at_call 74; refine HC.out.mono ?_; rintro e v1 ⟨rfl, hb⟩)
    have hz := hb.size
    generalize hg : w.heap.size = g at *
    have HG := hide hg
    clear hg
    go_loopw [6, 8, 32] (fun v _ i wr => ∃ k : Nat, k ≤ n1 ∧ i = .int .i64 k ∧ Lst wr g v (gat pss os k) ∧ Below g w wr ∧ Hid (∀ j, j < k → goodG pss os j = true)) (fun _ _ i _ => n1 - (intOf i).toNat)
    case atStart => exact ⟨0, Nat.zero_le _, rfl, Lst.new _ hz, hb.alloc hz _, fun j hj => absurd hj (Nat.not_lt_zero j)⟩
    case round =>
      obtain ⟨k, hk, rfl, hown, hbr, hgood⟩ := hrel
      have hgr : g ≤ wr.heap.size := by have := hbr.size; rw [HG.out] at this; exact this
      by_cases hlt : k < n1
      · obtain ⟨b1, o1, rfl, hbB1, hc1⟩ := (hR1.below hbr).at_ hlt
        obtain ⟨j, hj, hjx⟩ := deck_card HORD.out (show k < os.length by rw [HOL.out]; exact hlt)
        have hjm : j < n1 := by rw [HOL.out] at hjx; exact hjx
        rw [hj] at hc1
        obtain ⟨b, o, t, rfl, hbB, ht, hc, hok⟩ := (hR.below hbr).at_ hjm
        have hpile : pileAt pss os k = t.xs := by
          have h1 := con_at ht
          rw [HE.out] at h1
          unfold pileAt
          rw [hj, Int.toNat_natCast, List.getD, h1]
          rfl
        have hS : gat pss os (k + 1) = gat pss os k ++ t.xs := by rw [gat, hpile]
        have hgk : goodG pss os k = decide (t.n ≤ 52) := by unfold goodG; rw [hpile, hok.1.len]
        have hgl := gat_len hgood.out
        have hbw : b < wr.heap.size := Nat.lt_of_lt_of_le hbB hgr
        have hbw1 : b1 < wr.heap.size := Nat.lt_of_lt_of_le hbB1 hgr
        have HS := hide hS
        obtain ⟨tA, tn, tc, txs⟩ := t
        obtain ⟨hok1, hok2, hok3⟩ := hok
        simp only at hc hgk HS hok1 hok2 hok3
        have f1 : (0 : Int) ≤ (j : Int) := by omega
        have f2 : (j : Int) < (n1 : Int) := by omega
        by_cases h52 : tn ≤ 52
        · have HG2 := hide (show ∀ j, j < k + 1 → goodG pss os j = true from fun j hj => by
            rcases Nat.lt_succ_iff_lt_or_eq.1 hj with h | h
            · exact hgood.out j h
            · rw [h, hgk, decide_eq_true h52])
          clear hS hpile hgk ht hj hjx hR hR1
          go_wp2_with (first | (at_builtin; refine wpList_app rfl (.tmp 42) (.tmp 46) rfl g _ (gat pss os k) txs rfl hown tA tn tc rfl (hok1.more hgr) hok3 (by omega) hgr ?_; intro v4 w4 ho4 hg4 _) | go_in)
          have hb4 : Below g wr w4 := hown.grown hg4 hgr
          have ho4' : Lst w4 g v4 (gat pss os (k + 1)) := by rw [HS.out]; exact ho4
          clear hg4 ho4 hown
          go_wp2
          go_roundw
          case rel => exact ⟨k + 1, hlt, by go_num, ho4', hbr.trans hb4, HG2⟩
          case measure => simp [intOf]; omega
        · have hO := gat_noG (show k < os.length by rw [HOL.out]; exact hlt) (hgk.trans (decide_eq_false h52))
          have HN := hide hO
          clear hS hpile hgk ht hj hjx hR hR1 hO
          go_wp2
          go_ret2
          rw [← HKE.out, ← HRE.out, gat_out_no HN.out, HN.out]
          exact ⟨none, 0, rfl, Own.nil _ _, by rw [HG.out]; exact hbr⟩
      · obtain rfl : k = n1 := by omega
        have hgl := gat_len hgood.out
        obtain ⟨A', c', rfl, ho⟩ := hown.form
        have hD := IsDeck_b A' _ c' (gat pss os k) wr ho.rd (by omega) ho.cap.1
        cases hdk : deckB (gat pss os k)
        · have HN := hide (gat_noD HOL.out hdk)
          rw [hdk] at hD
          have HD := hide hD
          clear hD hdk
          go_wp2_with (go_at_call 52; refine HD.out.mono ?_; rintro e v2 ⟨rfl, hb2⟩)
          go_ret2
          rw [← HKE.out, ← HRE.out, gat_out_no HN.out, HN.out]
          exact ⟨none, 0, rfl, Own.nil _ _, by rw [HG.out]; exact hbr.trans (hb2.mono hgr)⟩
        · have HY := hide (gat_yes HOL.out HP.out hgood.out hdk)
          rw [hdk] at hD
          have HD := hide hD
          clear hD hdk
          go_wp2_with (go_at_call 52; refine HD.out.mono ?_; rintro e v2 ⟨rfl, hb2⟩)
          go_ret2
          rw [← HKE.out, ← HRE.out, gat_out_yes HOL.out HY.out, HY.out]
          exact ⟨A', c', rfl, by rw [HG.out]; exact ho.below hb2 (Nat.le_refl _), by rw [HG.out]; exact hbr.trans (hb2.mono hgr)⟩

end Go.Proofs.Ytfncmgaeecjacaa.deck
