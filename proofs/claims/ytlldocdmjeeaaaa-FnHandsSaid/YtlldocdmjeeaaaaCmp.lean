/-
  Two hands compared: both packages answer the same. Conditions: those of each theorem.
-/
import Derived.Test.YtlldocdmjeeaaaaBestI
namespace Go.Proofs.Ytlldocdmjeeaaaa.hand
open Go.RowKit
open base mem

def cmpOk (xs ys : List Int) : Bool := handB xs 5 7 && handB ys 5 7
def cmpV (x y : Int) : Int := if y < x then 1 else if x < y then -1 else 0
def cmpOut (xs ys : List Int) : Int := if cmpOk xs ys = true then cmpV (bestL xs).2 (bestL ys).2 else 0

set_option maxHeartbeats 2000000 in
theorem spec_CompareHands (A : Option Addr) (n c : Nat) (xs : List Int) (A2 : Option Addr) (n2 c2 : Nat) (ys : List Int) (w : World) (hR : Rd w w.heap.size A n xs) (hn : n ≤ 1048576) (hnc : n ≤ c) (hS : Rd w w.heap.size A2 n2 ys) (hm : n2 ≤ 1048576) (hmc : n2 ≤ c2) :
    Calls Try.prog 28 #[.slice A n c, .slice A2 n2 c2] w fun e w' => e = .returned (.tuple #[.int .i64 (cmpOut xs ys), .bool (cmpOk xs ys)]) ∧ Below w.heap.size w w' := by
  have H1 := hide (fun (q : Nat) => l03Big_any A n c xs w.heap.size (w.drewN q) (hR.drewN q) hn hnc)
  have H2 := hide (fun (q : Nat) => l03Big_any A2 n2 c2 ys w.heap.size (w.drewN q) (hS.drewN q) hm hmc)
  cases ha : handB xs 5 7
  · have hk : cmpOk xs ys = false := by simp [cmpOk, ha]
    have ho : cmpOut xs ys = 0 := by simp [cmpOut, hk]
    rw [hk, ho]
    rw [ha] at H1
    clear hR hS hk ho
    go_enter Try.func28, Try.ntmps28
    go_wp2_with (go_at_call 58; refine (H1.out 0).mono ?_; rintro e w' ⟨rfl, qa, rfl⟩)
    go_wp2
    go_ret2
    exact ⟨rfl, bdrewN (Below.refl _ _) _⟩
  cases hb : handB ys 5 7
  · have hk : cmpOk xs ys = false := by simp [cmpOk, hb]
    have ho : cmpOut xs ys = 0 := by simp [cmpOut, hk]
    rw [hk, ho]
    rw [ha] at H1
    rw [hb] at H2
    clear hR hS hk ho
    go_enter Try.func28, Try.ntmps28
    go_wp2_with fail
    refine (H1.out 0).mono ?_
    rintro e w' ⟨rfl, qa, rfl⟩
    go_wp2_with fail
    refine (H2.out qa).mono ?_
    rintro e w' ⟨rfl, qb, rfl⟩
    go_wp2_with fail
    go_ret2
    exact ⟨rfl, bdrewN (Below.refl _ _) (qa + qb)⟩
  have h5 : 5 ≤ n ∧ n ≤ 7 := by have := hand_len ha; rw [hR.len] at this; omega
  have h6 : 5 ≤ n2 ∧ n2 ≤ 7 := by have := hand_len hb; rw [hS.len] at this; omega
  have hfa : Fine xs := cards_nodup (hand_cards ha)
  have hfb : Fine ys := cards_nodup (hand_cards hb)
  have hk : cmpOk xs ys = true := by simp [cmpOk, ha, hb]
  have ho : cmpOut xs ys = cmpV (bestL xs).2 (bestL ys).2 := by simp [cmpOut, hk]
  rw [hk, ho]
  rw [ha] at H1
  rw [hb] at H2
  have oka := best_ok hfa (by rw [hR.len]; exact h5.1)
  have okb := best_ok hfb (by rw [hS.len]; exact h6.1)
  have HB1 := hide (fun (q : World) (hb : Below w.heap.size w q) => l03Best_any A n c xs w.heap.size q (hR.below hb) hb.size h5.1 (by omega) hfa)
  have HB2 := hide (fun (q : World) (hb : Below w.heap.size w q) => l03Best_any A2 n2 c2 ys w.heap.size q (hS.below hb) hb.size h6.1 (by omega) hfb)
  obtain ⟨X, hX⟩ := ex_eq (bestL xs)
  obtain ⟨Y, hY⟩ := ex_eq (bestL ys)
  rw [hX] at HB1 oka ⊢
  rw [hY] at HB2 okb ⊢
  have x0 : 0 ≤ X.2 ∧ X.2 < 3341637 := ⟨oka.2.2.2.1, oka.2.2.2.2⟩
  have y0 : 0 ≤ Y.2 ∧ Y.2 < 3341637 := ⟨okb.2.2.2.1, okb.2.2.2.2⟩
  obtain ⟨x, hx⟩ := ex_eq X.2
  obtain ⟨y, hy⟩ := ex_eq Y.2
  rw [hx] at HB1 x0 ⊢
  rw [hy] at HB2 y0 ⊢
  have HV := hide (show cmpV x y = if y < x then 1 else if x < y then -1 else 0 from rfl)
  obtain ⟨V, hV⟩ := ex_eq (cmpV x y)
  rw [hV] at HV ⊢
  clear hR hS hk ho oka okb hX hY hx hy hV hfa hfb ha hb h5 h6
  by_cases h1 : y < x
  · have HF := hide (show V = 1 by rw [HV.out, if_pos h1])
    clear HV
    go_enter Try.func28, Try.ntmps28
    go_wp2_with fail
    refine (H1.out 0).mono ?_
    rintro e w' ⟨rfl, qa, rfl⟩
    go_wp2_with fail
    refine (H2.out qa).mono ?_
    rintro e w' ⟨rfl, qb, rfl⟩
    go_wp2_with fail
    refine (HB1.out _ (bdrewN (Below.refl w.heap.size w) (qa + qb))).mono ?_
    rintro e w2 ⟨v1, rfl, hL1, hb1⟩
    have hbb1 := (bdrewN (Below.refl w.heap.size w) (qa + qb)).trans (hb1.mono (by simp))
    clear hL1 hb1
    go_wp2_with fail
    refine (HB2.out _ hbb1).mono ?_
    rintro e w3 ⟨v2, rfl, hL2, hb2⟩
    have hbb2 := hbb1.trans (hb2.mono hbb1.size)
    clear hL2 hb2 hbb1
    go_wp2
    go_ret2
    exact ⟨by rw [HF.out]; rfl, hbb2⟩
  by_cases h2 : x < y
  · have HF := hide (show V = -1 by rw [HV.out, if_neg h1, if_pos h2])
    clear HV
    go_enter Try.func28, Try.ntmps28
    go_wp2_with fail
    refine (H1.out 0).mono ?_
    rintro e w' ⟨rfl, qa, rfl⟩
    go_wp2_with fail
    refine (H2.out qa).mono ?_
    rintro e w' ⟨rfl, qb, rfl⟩
    go_wp2_with fail
    refine (HB1.out _ (bdrewN (Below.refl w.heap.size w) (qa + qb))).mono ?_
    rintro e w2 ⟨v1, rfl, hL1, hb1⟩
    have hbb1 := (bdrewN (Below.refl w.heap.size w) (qa + qb)).trans (hb1.mono (by simp))
    clear hL1 hb1
    go_wp2_with fail
    refine (HB2.out _ hbb1).mono ?_
    rintro e w3 ⟨v2, rfl, hL2, hb2⟩
    have hbb2 := hbb1.trans (hb2.mono hbb1.size)
    clear hL2 hb2 hbb1
    go_wp2
    go_ret2
    exact ⟨by rw [HF.out]; rfl, hbb2⟩
  · have HF := hide (show V = 0 by rw [HV.out, if_neg h1, if_neg h2])
    clear HV
    go_enter Try.func28, Try.ntmps28
    go_wp2_with fail
    refine (H1.out 0).mono ?_
    rintro e w' ⟨rfl, qa, rfl⟩
    go_wp2_with fail
    refine (H2.out qa).mono ?_
    rintro e w' ⟨rfl, qb, rfl⟩
    go_wp2_with fail
    refine (HB1.out _ (bdrewN (Below.refl w.heap.size w) (qa + qb))).mono ?_
    rintro e w2 ⟨v1, rfl, hL1, hb1⟩
    have hbb1 := (bdrewN (Below.refl w.heap.size w) (qa + qb)).trans (hb1.mono (by simp))
    clear hL1 hb1
    go_wp2_with fail
    refine (HB2.out _ hbb1).mono ?_
    rintro e w3 ⟨v2, rfl, hL2, hb2⟩
    have hbb2 := hbb1.trans (hb2.mono hbb1.size)
    clear hL2 hb2 hbb1
    go_wp2
    go_ret2
    exact ⟨by rw [HF.out]; rfl, hbb2⟩

set_option maxHeartbeats 2000000 in
theorem impl_CompareHands (A : Option Addr) (n c : Nat) (xs : List Int) (A2 : Option Addr) (n2 c2 : Nat) (ys : List Int) (w : World) (hR : Rd w w.heap.size A n xs) (hn : n ≤ 1048576) (hnc : n ≤ c) (hS : Rd w w.heap.size A2 n2 ys) (hm : n2 ≤ 1048576) (hmc : n2 ≤ c2) :
    Calls Try.prog 29 #[.slice A n c, .slice A2 n2 c2] w fun e w' => e = .returned (.tuple #[.int .i64 (cmpOut xs ys), .bool (cmpOk xs ys)]) ∧ Below w.heap.size w w' := by
  have H1 := hide (fun (q : Nat) => isHand_any A n c xs 5 7 w.heap.size w hR hn hnc (by omega) (by omega))
  have H2 := hide (fun (q : Nat) => isHand_any A2 n2 c2 ys 5 7 w.heap.size w hS hm hmc (by omega) (by omega))
  cases ha : handB xs 5 7
  · have hk : cmpOk xs ys = false := by simp [cmpOk, ha]
    have ho : cmpOut xs ys = 0 := by simp [cmpOut, hk]
    rw [hk, ho]
    rw [ha] at H1
    clear hR hS hk ho
    go_enter Try.func29, Try.ntmps29
    go_wp2_with (go_at_call 53; refine (H1.out 0).mono ?_; rintro e w' ⟨rfl, rfl⟩)
    go_wp2
    go_ret2
    exact ⟨rfl, Below.refl _ _⟩
  cases hb : handB ys 5 7
  · have hk : cmpOk xs ys = false := by simp [cmpOk, hb]
    have ho : cmpOut xs ys = 0 := by simp [cmpOut, hk]
    rw [hk, ho]
    rw [ha] at H1
    rw [hb] at H2
    clear hR hS hk ho
    go_enter Try.func29, Try.ntmps29
    go_wp2_with fail
    refine (H1.out 0).mono ?_
    rintro e w' ⟨rfl, rfl⟩
    go_wp2_with fail
    refine (H2.out 0).mono ?_
    rintro e w' ⟨rfl, rfl⟩
    go_wp2_with fail
    go_ret2
    exact ⟨rfl, Below.refl _ _⟩
  have h5 : 5 ≤ n ∧ n ≤ 7 := by have := hand_len ha; rw [hR.len] at this; omega
  have h6 : 5 ≤ n2 ∧ n2 ≤ 7 := by have := hand_len hb; rw [hS.len] at this; omega
  have hfa : Fine xs := cards_nodup (hand_cards ha)
  have hfb : Fine ys := cards_nodup (hand_cards hb)
  have hk : cmpOk xs ys = true := by simp [cmpOk, ha, hb]
  have ho : cmpOut xs ys = cmpV (bestL xs).2 (bestL ys).2 := by simp [cmpOut, hk]
  rw [hk, ho]
  rw [ha] at H1
  rw [hb] at H2
  have oka := best_ok hfa (by rw [hR.len]; exact h5.1)
  have okb := best_ok hfb (by rw [hS.len]; exact h6.1)
  have HB1 := hide (fun (q : World) (hb : Below w.heap.size w q) => bestFive_any A n c xs q ((hR.below hb).more hb.size) h5.1 (by omega) hfa)
  have HB2 := hide (fun (q : World) (hb : Below w.heap.size w q) => bestFive_any A2 n2 c2 ys q ((hS.below hb).more hb.size) h6.1 (by omega) hfb)
  obtain ⟨X, hX⟩ := ex_eq (bestL xs)
  obtain ⟨Y, hY⟩ := ex_eq (bestL ys)
  rw [hX] at HB1 oka ⊢
  rw [hY] at HB2 okb ⊢
  have x0 : 0 ≤ X.2 ∧ X.2 < 3341637 := ⟨oka.2.2.2.1, oka.2.2.2.2⟩
  have y0 : 0 ≤ Y.2 ∧ Y.2 < 3341637 := ⟨okb.2.2.2.1, okb.2.2.2.2⟩
  obtain ⟨x, hx⟩ := ex_eq X.2
  obtain ⟨y, hy⟩ := ex_eq Y.2
  rw [hx] at HB1 x0 ⊢
  rw [hy] at HB2 y0 ⊢
  have HV := hide (show cmpV x y = if y < x then 1 else if x < y then -1 else 0 from rfl)
  obtain ⟨V, hV⟩ := ex_eq (cmpV x y)
  rw [hV] at HV ⊢
  clear hR hS hk ho oka okb hX hY hx hy hV hfa hfb ha hb h5 h6
  by_cases h1 : y < x
  · have HF := hide (show V = 1 by rw [HV.out, if_pos h1])
    clear HV
    go_enter Try.func29, Try.ntmps29
    go_wp2_with fail
    refine (H1.out 0).mono ?_
    rintro e w' ⟨rfl, rfl⟩
    go_wp2_with fail
    refine (H2.out 0).mono ?_
    rintro e w' ⟨rfl, rfl⟩
    go_wp2_with fail
    refine (HB1.out _ (Below.refl w.heap.size w)).mono ?_
    rintro e w2 ⟨v1, rfl, hL1, hb1⟩
    have hbb1 := (Below.refl w.heap.size w).trans (hb1.mono (Nat.le_refl _))
    clear hL1 hb1
    go_wp2_with fail
    refine (HB2.out _ hbb1).mono ?_
    rintro e w3 ⟨v2, rfl, hL2, hb2⟩
    have hbb2 := hbb1.trans (hb2.mono hbb1.size)
    clear hL2 hb2 hbb1
    go_wp2
    go_ret2
    exact ⟨by rw [HF.out]; rfl, hbb2⟩
  by_cases h2 : x < y
  · have HF := hide (show V = -1 by rw [HV.out, if_neg h1, if_pos h2])
    clear HV
    go_enter Try.func29, Try.ntmps29
    go_wp2_with fail
    refine (H1.out 0).mono ?_
    rintro e w' ⟨rfl, rfl⟩
    go_wp2_with fail
    refine (H2.out 0).mono ?_
    rintro e w' ⟨rfl, rfl⟩
    go_wp2_with fail
    refine (HB1.out _ (Below.refl w.heap.size w)).mono ?_
    rintro e w2 ⟨v1, rfl, hL1, hb1⟩
    have hbb1 := (Below.refl w.heap.size w).trans (hb1.mono (Nat.le_refl _))
    clear hL1 hb1
    go_wp2_with fail
    refine (HB2.out _ hbb1).mono ?_
    rintro e w3 ⟨v2, rfl, hL2, hb2⟩
    have hbb2 := hbb1.trans (hb2.mono hbb1.size)
    clear hL2 hb2 hbb1
    go_wp2
    go_ret2
    exact ⟨by rw [HF.out]; rfl, hbb2⟩
  · have HF := hide (show V = 0 by rw [HV.out, if_neg h1, if_neg h2])
    clear HV
    go_enter Try.func29, Try.ntmps29
    go_wp2_with fail
    refine (H1.out 0).mono ?_
    rintro e w' ⟨rfl, rfl⟩
    go_wp2_with fail
    refine (H2.out 0).mono ?_
    rintro e w' ⟨rfl, rfl⟩
    go_wp2_with fail
    refine (HB1.out _ (Below.refl w.heap.size w)).mono ?_
    rintro e w2 ⟨v1, rfl, hL1, hb1⟩
    have hbb1 := (Below.refl w.heap.size w).trans (hb1.mono (Nat.le_refl _))
    clear hL1 hb1
    go_wp2_with fail
    refine (HB2.out _ hbb1).mono ?_
    rintro e w3 ⟨v2, rfl, hL2, hb2⟩
    have hbb2 := hbb1.trans (hb2.mono hbb1.size)
    clear hL2 hb2 hbb1
    go_wp2
    go_ret2
    exact ⟨by rw [HF.out]; rfl, hbb2⟩

end Go.Proofs.Ytlldocdmjeeaaaa.hand
