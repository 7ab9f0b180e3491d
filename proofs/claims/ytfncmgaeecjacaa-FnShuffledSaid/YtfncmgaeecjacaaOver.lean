/-
  OverhandBy of both packages answers the same. Conditions: those of each theorem.
-/
import Derived.Test.YtfncmgaeecjacaaConcat
import Derived.Test.YtfncmgaeecjacaaDeck
namespace Go.Proofs.Ytfncmgaeecjacaa.deck
open Go.RowKit
open base mem

def ovA (ss : List Int) : Nat → Nat
  | 0 => 0
  | k + 1 => ovA ss k + (ss.getD k 0).toNat
def ovL (xs ss : List Int) : Nat → List Int
  | 0 => []
  | k + 1 => (xs.take (ovA ss (k + 1))).drop (ovA ss k) ++ ovL xs ss k
def ovB (n : Nat) (ss : List Int) (k : Nat) : Bool := inB (ss.getD k 0) 1 ((n : Int) - (ovA ss k : Nat))
def ovG (n : Nat) (ss : List Int) : Bool := (List.range ss.length).all (ovB n ss) && decide (ovA ss ss.length = n)
def ovOk (xs ss : List Int) : Bool := deckB xs && (decide (ss.length ≤ xs.length) && ovG xs.length ss)
def ovOut (xs ss : List Int) : List Int := if ovOk xs ss then ovL xs ss ss.length else []
theorem ovG_no {n : Nat} {ss : List Int} {k : Nat} (hk : k < ss.length) (h : ovB n ss k = false) : ovG n ss = false := by
  unfold ovG
  have : (List.range ss.length).all (ovB n ss) = false := by
    rw [List.all_eq_false]
    exact ⟨k, by simpa using hk, by simp [h]⟩
  rw [this, Bool.false_and]
theorem ovG_all {n : Nat} {ss : List Int} (h : ∀ j, j < ss.length → ovB n ss j = true) : ovG n ss = decide (ovA ss ss.length = n) := by
  unfold ovG
  have : (List.range ss.length).all (ovB n ss) = true := by
    rw [List.all_eq_true]
    intro j hj
    exact h j (by simpa using hj)
  rw [this, Bool.true_and]
theorem ovA_le {n : Nat} {ss : List Int} {k : Nat} (h : ∀ j, j < k → ovB n ss j = true) : ovA ss k ≤ n := by
  induction k with
  | zero => exact Nat.zero_le _
  | succ k ih =>
    have h1 := ih (fun j hj => h j (by omega))
    obtain ⟨h2, h3⟩ := inB_yes (h k (Nat.lt_succ_self k))
    rw [ovA]
    omega
theorem ovL_len {n : Nat} {xs ss : List Int} {k : Nat} (hx : xs.length = n) (h : ∀ j, j < k → ovB n ss j = true) : (ovL xs ss k).length = ovA ss k := by
  induction k with
  | zero => rfl
  | succ k ih =>
    have h1 := ovA_le h
    have h2 : ovA ss k ≤ ovA ss (k + 1) := by rw [ovA]; omega
    rw [ovL, List.length_append, ih (fun j hj => h j (by omega)), List.length_drop, List.length_take, hx]
    omega
theorem ovOut_len (xs ss : List Int) : (ovOut xs ss).length ≤ 1048576 := by
  unfold ovOut
  split
  · next h =>
    simp only [ovOk, Bool.and_eq_true] at h
    have h1 := deck_len h.1
    have h2 := h.2.2
    unfold ovG at h2
    rw [Bool.and_eq_true, List.all_eq_true] at h2
    rw [ovL_len rfl (fun j hj => h2.1 j (by simpa using hj)), of_decide_eq_true h2.2]
    omega
  · simp
theorem rds_two' (t u : Sl) (w : World) (T : TypeId) (h1 : t.ok (w.alloc (.cells #[t.val, u.val] T)) (w.alloc (.cells #[t.val, u.val] T)).heap.size) (h2 : u.ok (w.alloc (.cells #[t.val, u.val] T)) (w.alloc (.cells #[t.val, u.val] T)).heap.size) :
    RdS (w.alloc (.cells #[t.val, u.val] T)) (w.alloc (.cells #[t.val, u.val] T)).heap.size (some ⟨w.heap.size, 0, none⟩) 2 [t, u] := by
  refine ⟨rfl, fun x hx => ?_, fun _ => ⟨w.heap.size, 0, rfl, by simp, fun i x hx => ?_⟩⟩
  · simp only [List.mem_cons, List.not_mem_nil, or_false] at hx
    rcases hx with rfl | rfl
    · exact h1
    · exact h2
  · have hh := cell_of_row (w.alloc (.cells #[t.val, u.val] T)) w.heap.size i #[t.val, u.val] T (0, 0) (heap_alloc_new w _)
    rw [Nat.zero_add]
    refine Eq.trans hh ?_
    match i, hx with
    | 0, hx => simp at hx; subst hx; rfl
    | 1, hx => simp at hx; subst hx; rfl

set_option maxHeartbeats 4000000 in
theorem spec_OverhandBy (A : Option Addr) (n c : Nat) (xs : List Int) (A' : Option Addr) (m c' : Nat) (ss : List Int) (w : World) (hR : Rd w w.heap.size A n xs) (hn : n ≤ 1048576) (hnc : n ≤ c)
    (hS : Rd w w.heap.size A' m ss) (hn' : m ≤ 1048576) (_hnc' : m ≤ c') :
    Calls Try.prog 24 #[.slice A n c, .slice A' m c'] w fun e w' => ∃ A2 c2, e = .returned (.tuple #[.slice A2 (ovOut xs ss).length c2, .bool (ovOk xs ss)]) ∧ Own w' w.heap.size A2 (ovOut xs ss).length c2 (ovOut xs ss) ∧ Below w.heap.size w w' := by
  have hL1 := l02Deck_b A n c xs w hR (by omega) hnc
  cases hD : deckB xs
  · have hK : ovOk xs ss = false := by simp [ovOk, hD]
    have hO : ovOut xs ss = [] := by simp [ovOut, hK]
    rw [hD] at hL1
    rw [hO, hK]
    have HL1 := hide hL1
    clear hL1 hO hK hD hR hS
    go_enter Try.func24, Try.ntmps24
    go_wp2_with fail
    refine HL1.out.mono ?_
    rintro e v1 ⟨rfl, hb⟩
    go_wp2
    go_ret2
    exact ⟨none, 0, rfl, Own.nil _ _, hb⟩
  by_cases hl : m ≤ n
  rotate_left
  · have hK : ovOk xs ss = false := by simp [ovOk, hR.len, hS.len, hl]
    have hO : ovOut xs ss = [] := by simp [ovOut, hK]
    rw [hD] at hL1
    rw [hO, hK]
    have HL1 := hide hL1
    clear hL1 hO hK hD hR hS
    go_enter Try.func24, Try.ntmps24
    go_wp2_with fail
    refine HL1.out.mono ?_
    rintro e v1 ⟨rfl, hb⟩
    go_wp2
    go_ret2
    exact ⟨none, 0, rfl, Own.nil _ _, hb⟩
  have HX := hide hS.len
  have HN := hide hR.len
  have hgt : decide (n < m) = false := by simp; omega
  have HOK := hide (show ovOk xs ss = ovG n ss by simp [ovOk, hD, hR.len, hS.len, hl])
  have HOU := hide (show ovOut xs ss = if ovG n ss then ovL xs ss m else [] by unfold ovOut; rw [HOK.out, HX.out])
  obtain ⟨OK, hOK⟩ := ex_eq (ovOk xs ss)
  obtain ⟨OUT, hOUT⟩ := ex_eq (ovOut xs ss)
  rw [hOK] at HOK ⊢
  rw [hOUT] at HOU ⊢
  rw [hD] at hL1
  have hd := deck_len hD
  rw [hR.len] at hd
  have HL1 := hide hL1
  clear hL1 hD hOK hOUT
  go_enter Try.func24, Try.ntmps24
  go_wp2_with fail
  refine HL1.out.mono ?_
  rintro e v1 ⟨rfl, hb⟩
  have hz := hb.size
  have hR1 := hR.below hb
  have hS1 := hS.below hb
  clear hR hS
  go_wp2
  generalize hg : w.heap.size = g at *
  have HG := hide hg
  clear hg
  go_loopw [6, 7, 9, 10] (fun v at' i _ wr => ∃ k : Nat, k ≤ m ∧ i = .int .i64 k ∧ at' = .int .i64 ((ovA ss k : Nat) : Int) ∧ Lst wr g v (ovL xs ss k) ∧ Below g v1 wr ∧ Hid (∀ j, j < k → ovB n ss j = true)) (fun _ _ i _ _ => m - (intOf i).toNat)
  case atStart => exact ⟨0, Nat.zero_le _, rfl, rfl, Lst.new _ hz, (Below.refl _ _).alloc hz _, fun j hj => absurd hj (Nat.not_lt_zero j)⟩
  case round =>
    obtain ⟨k, hk, rfl, rfl, hown, hbr, hgood⟩ := hrel
    have hgr : g ≤ wr.heap.size := Nat.le_trans hz hbr.size
    have hal := ovA_le hgood.out
    by_cases hlt : k < m
    · obtain ⟨b2, o2, rfl, hbB2, hc2⟩ := (hS1.below hbr).at_ hlt
      obtain ⟨b, o, rfl, hbB, _⟩ := hR1.2 (by omega)
      cases hin : ovB n ss k
      · have HF := hide (ovG_no (by rw [HX.out]; exact hlt) hin)
        have hin2 : inB (ss.getD k 0) 1 ((n : Int) - (ovA ss k : Nat)) = false := hin
        obtain ⟨x, hx⟩ := ex_eq (ss.getD k 0)
        rw [hx] at hc2 hin2
        obtain ⟨a, ha⟩ := ex_eq (ovA ss k)
        rw [ha] at hal hin2 ⊢
        clear hx ha hin hR1 hS1
        go_wp2_with (go_at_call 68; refine (l00In_any _ _ _ _).mono ?_; rintro e w' ⟨rfl, rfl⟩)
        go_ret2
        rw [HOK.out, HOU.out, HF.out]
        exact ⟨none, 0, rfl, Own.nil _ _, by rw [HG.out]; exact hb.trans hbr⟩
      · obtain ⟨x1, x2⟩ := inB_yes hin
        have hin2 : inB (ss.getD k 0) 1 ((n : Int) - (ovA ss k : Nat)) = true := hin
        have HG2 := hide (show ∀ j, j < k + 1 → ovB n ss j = true from fun j hj => by rcases Nat.lt_succ_iff_lt_or_eq.1 hj with h | h; exact hgood.out j h; rw [h]; exact hin)
        have hA1 : ovA ss (k + 1) = ovA ss k + (ss.getD k 0).toNat := rfl
        have hll := ovL_len HN.out hgood.out
        have hL1 : ovL xs ss (k + 1) = [] ++ (xs.take (ovA ss (k + 1))).drop (ovA ss k) ++ ovL xs ss k := by rw [List.nil_append]; rfl
        rw [hA1] at hL1
        obtain ⟨t, ht⟩ := Int.eq_ofNat_of_zero_le (show 0 ≤ ss.getD k 0 by omega)
        rw [ht] at hc2 hin2 x1 x2 hA1 hL1
        rw [Int.toNat_natCast] at hA1 hL1
        obtain ⟨a, ha⟩ := ex_eq (ovA ss k)
        rw [ha] at hal hin2 x2 hA1 hL1 hll ⊢
        have hat : a + t ≤ n := by omega
        have hP1 : Rd wr g (some ⟨b, o, none⟩) (a + t) (xs.take (a + t)) := Rd.take (hR1.below hbr) hat
        have hP2 := Rd.drop hP1 (Nat.le_add_right a t)
        rw [Nat.add_sub_cancel_left] at hP2
        obtain ⟨P, hPe⟩ := ex_eq ((xs.take (a + t)).drop a)
        rw [hPe] at hP2 hL1
        have HP := hide hP2
        have hlP := hP2.len
        have HL1' := hide hL1
        have HA1 := hide hA1
        have f1 : (0 : Int) ≤ (a : Int) := by omega
        have f2 : (a : Int) ≤ (a : Int) + (t : Int) := by omega
        have f3 : (a : Int) + (t : Int) ≤ (c : Int) := by omega
        have f4 : (a : Int) < (c : Int) := by omega
        have hbw2 : b2 < wr.heap.size := by omega
        have f5 : ((a : Int) + (t : Int)).toNat = a + t := by omega
        clear ht ha hin hR1 hS1 hP1 hP2 hPe hA1 hL1
        obtain ⟨A5, c5, rfl, ho5⟩ := hown.form
        have hl5 := ho5.len
        obtain ⟨m5, hm5⟩ := ex_eq (ovL xs ss k).length
        have hlr := ho5.rd
        have hnone := ho5.nilc
        rw [hm5] at hlr ho5 hll ⊢
        have hm5b : m5 ≤ 60 := by omega
        have HM5 := hide hm5
        clear hm5 hl5 hll
        go_wp2_with (first | (go_at_call 68; refine (l00In_any _ _ _ _).mono ?_; rintro e w' ⟨rfl, rfl⟩) | (at_builtin; refine wpList_app rfl (.tmp 39) (.tmp 48) rfl wr.heap.size _ [] P rfl (Lst.new wr (Nat.le_refl _)) (some ⟨b, o + a, none⟩) t (c - a) rfl ((HP.out.alloc hgr _).more (by simp; omega)) (fun h => by cases h) (by simp only [List.length_nil]; omega) (by simp) ?_; intro v2 w2 ho2 hg2 _; have tok : True := trivial) | (at_builtin; have _t := tok; refine wpList_app rfl (.tmp 50) (.tmp 51) rfl wr.heap.size _ _ (ovL xs ss k) rfl ho2 A5 m5 c5 rfl (Rd.more (Rd.below (Rd.alloc hlr (Nat.le_refl _) (.cells #[] 2)) ((Lst.new wr (Nat.le_refl _)).grown hg2 (by simp))) (by have := hg2.size; simp at this; omega)) hnone (by simp only [List.nil_append, hlP]; omega) (by have := hg2.size; simp at this; omega) ?_; intro v3 w3 ho3 hg3 _; clear tok; have hb2 : Below wr.heap.size wr w2 := ((Below.refl _ _).alloc (Nat.le_refl _) _).trans ((Lst.new wr (Nat.le_refl _)).grown hg2 (by simp)); have hb3 : Below wr.heap.size w2 w3 := ho2.grown hg3 (by have := hg2.size; simp at this; omega); have hc3 : w3.cell? ⟨b2, o2 + k, none⟩ = some (.int .i64 t) := ((hb2.trans hb3).cell (p := ⟨b2, o2 + k, none⟩) hbw2).trans hc2))
        have hb4 : Below g wr w3 := (hb2.trans hb3).mono hgr
        have ho4 : Lst w3 g v3 (ovL xs ss (k + 1)) := by
          rw [HL1'.out]
          obtain ⟨A6, c6, rfl, ho6⟩ := ho3.form
          exact Lst.of (ho6.mono hgr)
        clear hg2 hg3 ho2 ho3 hb2 hb3 hlr hnone ho5
        go_wp2
        go_roundw
        case rel => exact ⟨k + 1, by omega, by go_num, int_congr (by have := HA1.out; omega), ho4, hbr.trans hb4, HG2.out⟩
        case measure => simp [intOf]; omega
    · obtain rfl : m = k := by omega
      have HY := hide (ovG_all (n := n) (ss := ss) (fun j hj => hgood.out j (by rw [← HX.out]; exact hj)))
      have hlA := ovL_len HN.out hgood.out
      obtain ⟨A4, c4, rfl, ho⟩ := hown.form
      obtain ⟨a, ha⟩ := ex_eq (ovA ss m)
      by_cases han : a = n
      · subst han
        have hHY : ovG a ss = true := by rw [HY.out, HX.out, ha]; simp
        have HHY := hide hHY
        rw [ha]
        clear hHY ha hlA hown
        have hbq : ((a : Int) != (a : Int)) = false := by simp
        go_wp2
        go_ret2
        have e2 : OUT = ovL xs ss m := by rw [HOU.out, HHY.out]; rfl
        rw [HOK.out, HHY.out, e2]
        exact ⟨A4, c4, rfl, by rw [HG.out]; exact ho, by rw [HG.out]; exact hb.trans hbr⟩
      · have hHY : ovG n ss = false := by rw [HY.out, HX.out, ha]; simp [han]
        have HHY := hide hHY
        rw [ha]
        rw [ha] at hal
        have hbq : ((a : Int) != (n : Int)) = true := by rw [bne_iff_ne]; omega
        have hbq2 : ((n : Int) - (a : Int) != 0) = true := by rw [bne_iff_ne]; omega
        clear hHY ha hlA hown han
        go_wp2
        go_ret2
        rw [HOK.out, HOU.out, HHY.out]
        exact ⟨none, 0, rfl, Own.nil _ _, by rw [HG.out]; exact hb.trans hbr⟩

set_option maxHeartbeats 4000000 in
theorem impl_OverhandBy (A : Option Addr) (n c : Nat) (xs : List Int) (A' : Option Addr) (m c' : Nat) (ss : List Int) (w : World) (hR : Rd w w.heap.size A n xs) (hn : n ≤ 1048576) (hnc : n ≤ c)
    (hS : Rd w w.heap.size A' m ss) (hn' : m ≤ 1048576) (_hnc' : m ≤ c') :
    Calls Try.prog 25 #[.slice A n c, .slice A' m c'] w fun e w' => ∃ A2 c2, e = .returned (.tuple #[.slice A2 (ovOut xs ss).length c2, .bool (ovOk xs ss)]) ∧ Own w' w.heap.size A2 (ovOut xs ss).length c2 (ovOut xs ss) ∧ Below w.heap.size w w' := by
  have hL1 := IsDeck_b A n c xs w hR (by omega) hnc
  cases hD : deckB xs
  · have hK : ovOk xs ss = false := by simp [ovOk, hD]
    have hO : ovOut xs ss = [] := by simp [ovOut, hK]
    rw [hD] at hL1
    rw [hO, hK]
    have HL1 := hide hL1
    clear hL1 hO hK hD hR hS
    go_enter Try.func25, Try.ntmps25
    go_wp2_with fail
    refine HL1.out.mono ?_
    rintro e v1 ⟨rfl, hb⟩
    go_wp2
    go_ret2
    exact ⟨none, 0, rfl, Own.nil _ _, hb⟩
  by_cases hl : m ≤ n
  rotate_left
  · have hK : ovOk xs ss = false := by simp [ovOk, hR.len, hS.len, hl]
    have hO : ovOut xs ss = [] := by simp [ovOut, hK]
    rw [hD] at hL1
    rw [hO, hK]
    have HL1 := hide hL1
    clear hL1 hO hK hD hR hS
    go_enter Try.func25, Try.ntmps25
    go_wp2_with fail
    refine HL1.out.mono ?_
    rintro e v1 ⟨rfl, hb⟩
    go_wp2
    go_ret2
    exact ⟨none, 0, rfl, Own.nil _ _, hb⟩
  have HX := hide hS.len
  have HN := hide hR.len
  have hgt : decide (n < m) = false := by simp; omega
  have HOK := hide (show ovOk xs ss = ovG n ss by simp [ovOk, hD, hR.len, hS.len, hl])
  have HOU := hide (show ovOut xs ss = if ovG n ss then ovL xs ss m else [] by unfold ovOut; rw [HOK.out, HX.out])
  obtain ⟨OK, hOK⟩ := ex_eq (ovOk xs ss)
  obtain ⟨OUT, hOUT⟩ := ex_eq (ovOut xs ss)
  rw [hOK] at HOK ⊢
  rw [hOUT] at HOU ⊢
  rw [hD] at hL1
  have hd := deck_len hD
  rw [hR.len] at hd
  have HL1 := hide hL1
  clear hL1 hD hOK hOUT
  go_enter Try.func25, Try.ntmps25
  go_wp2_with fail
  refine HL1.out.mono ?_
  rintro e v1 ⟨rfl, hb⟩
  have hz := hb.size
  have hR1 := hR.below hb
  have hS1 := hS.below hb
  clear hR hS
  go_wp2
  generalize hg : w.heap.size = g at *
  have HG := hide hg
  clear hg
  go_loopw [6, 7, 8, 10, 26] (fun lf at' v _ i wr => ∃ k : Nat, k ≤ m ∧ i = .int .i64 k ∧ at' = .int .i64 ((ovA ss k : Nat) : Int) ∧ lf = .int .i64 ((n : Int) - (ovA ss k : Nat)) ∧ Lst wr g v (ovL xs ss k) ∧ Below g v1 wr ∧ Hid (∀ j, j < k → ovB n ss j = true)) (fun _ _ _ _ i _ => m - (intOf i).toNat)
  case atStart => exact ⟨0, Nat.zero_le _, rfl, rfl, by simp [ovA], Lst.new _ hz, (Below.refl _ _).alloc hz _, fun j hj => absurd hj (Nat.not_lt_zero j)⟩
  case round =>
    obtain ⟨k, hk, rfl, rfl, rfl, hown, hbr, hgood⟩ := hrel
    have hgr : g ≤ wr.heap.size := Nat.le_trans hz hbr.size
    have hal := ovA_le hgood.out
    by_cases hlt : k < m
    · obtain ⟨b2, o2, rfl, hbB2, hc2⟩ := (hS1.below hbr).at_ hlt
      obtain ⟨b, o, rfl, hbB, _⟩ := hR1.2 (by omega)
      cases hin : ovB n ss k
      · have HF := hide (ovG_no (by rw [HX.out]; exact hlt) hin)
        have hin2 : inB (ss.getD k 0) 1 ((n : Int) - (ovA ss k : Nat)) = false := hin
        obtain ⟨x, hx⟩ := ex_eq (ss.getD k 0)
        rw [hx] at hc2 hin2
        obtain ⟨a, ha⟩ := ex_eq (ovA ss k)
        rw [ha] at hal hin2 ⊢
        clear hx ha hin hR1 hS1
        go_wp2_with (go_at_call 69; refine (within_any _ _ _ _).mono ?_; rintro e w' ⟨rfl, rfl⟩)
        go_ret2
        rw [HOK.out, HOU.out, HF.out]
        exact ⟨none, 0, rfl, Own.nil _ _, by rw [HG.out]; exact hb.trans hbr⟩
      · obtain ⟨x1, x2⟩ := inB_yes hin
        have hin2 : inB (ss.getD k 0) 1 ((n : Int) - (ovA ss k : Nat)) = true := hin
        have HG2 := hide (show ∀ j, j < k + 1 → ovB n ss j = true from fun j hj => by rcases Nat.lt_succ_iff_lt_or_eq.1 hj with h | h; exact hgood.out j h; rw [h]; exact hin)
        have hA1 : ovA ss (k + 1) = ovA ss k + (ss.getD k 0).toNat := rfl
        have hll := ovL_len HN.out hgood.out
        have hL1 : ovL xs ss (k + 1) = [] ++ (xs.take (ovA ss (k + 1))).drop (ovA ss k) ++ ovL xs ss k := by rw [List.nil_append]; rfl
        rw [hA1] at hL1
        obtain ⟨t, ht⟩ := Int.eq_ofNat_of_zero_le (show 0 ≤ ss.getD k 0 by omega)
        rw [ht] at hc2 hin2 x1 x2 hA1 hL1
        rw [Int.toNat_natCast] at hA1 hL1
        obtain ⟨a, ha⟩ := ex_eq (ovA ss k)
        rw [ha] at hal hin2 x2 hA1 hL1 hll ⊢
        have hat : a + t ≤ n := by omega
        have hP1 : Rd wr g (some ⟨b, o, none⟩) (a + t) (xs.take (a + t)) := Rd.take (hR1.below hbr) hat
        have hP2 := Rd.drop hP1 (Nat.le_add_right a t)
        rw [Nat.add_sub_cancel_left] at hP2
        obtain ⟨P, hPe⟩ := ex_eq ((xs.take (a + t)).drop a)
        rw [hPe] at hP2 hL1
        have HP := hide hP2
        have hlP := hP2.len
        have HL1' := hide hL1
        have HA1 := hide hA1
        have f1 : (0 : Int) ≤ (a : Int) := by omega
        have f2 : (a : Int) ≤ (a : Int) + (t : Int) := by omega
        have f3 : (a : Int) + (t : Int) ≤ (c : Int) := by omega
        have f4 : (a : Int) < (c : Int) := by omega
        have hbw2 : b2 < wr.heap.size := by omega
        have f5 : ((a : Int) + (t : Int)).toNat = a + t := by omega
        clear ht ha hin hR1 hS1 hP1 hP2 hPe hA1 hL1
        obtain ⟨A5, c5, rfl, ho5⟩ := hown.form
        have hl5 := ho5.len
        obtain ⟨m5, hm5⟩ := ex_eq (ovL xs ss k).length
        have hlr := ho5.rd
        have hnone := ho5.nilc
        have hcap := ho5.cap.1
        rw [hm5] at hlr ho5 hll hcap ⊢
        have hm5b : m5 ≤ 60 := by omega
        clear hm5 hl5 hll
        go_wp2_with (go_at_call 69; refine (within_any _ _ _ _).mono ?_; rintro e w' ⟨rfl, rfl⟩)
        have HRS : Hid (RdS (wr.alloc (.cells #[.slice (some ⟨b, o + a, none⟩) t (c - a), .slice A5 m5 c5] 22)) (wr.alloc (.cells #[.slice (some ⟨b, o + a, none⟩) t (c - a), .slice A5 m5 c5] 22)).heap.size (some ⟨wr.heap.size, 0, none⟩) 2 [⟨some ⟨b, o + a, none⟩, t, c - a, P⟩, ⟨A5, m5, c5, ovL xs ss k⟩]) :=
          rds_two' ⟨some ⟨b, o + a, none⟩, t, c - a, P⟩ ⟨A5, m5, c5, ovL xs ss k⟩ _ _ ⟨(HP.out.alloc hgr _).more (by simp; omega), by simp only; omega, fun h => by cases h⟩ ⟨(hlr.alloc (Nat.le_refl _) _).more (by simp), hcap, hnone⟩
        refine (Concat_any _ 2 2 _ _ HRS.out (by omega) (by intro q hq; simp only [List.mem_cons, List.not_mem_nil, or_false] at hq; rcases hq with rfl | rfl <;> simp only <;> omega)).mono ?_
        rintro e w3 ⟨A6, c6, rfl, ho6, hb3⟩
        have hcat : catTo [⟨some ⟨b, o + a, none⟩, t, c - a, P⟩, ⟨A5, m5, c5, ovL xs ss k⟩] 2 = P ++ ovL xs ss k := by simp [catTo]
        rw [hcat] at ho6 ⊢
        have hb4 : Below g wr w3 := ((Below.refl _ _).alloc hgr _).trans (hb3.mono (by simp; omega))
        have hcc := HL1'.out
        rw [List.nil_append] at hcc
        rw [← hcc] at ho6 ⊢
        have ho4 : Lst w3 g (.slice A6 (ovL xs ss (k + 1)).length c6) (ovL xs ss (k + 1)) := Lst.of (ho6.mono (by simp; omega))
        obtain ⟨m6, hm6⟩ := ex_eq (ovL xs ss (k + 1)).length
        rw [hm6] at ho4 ⊢
        clear HRS hcat hcc hlr hnone ho5 hb3 ho6 hm6
        go_wp2
        go_roundw
        case rel => exact ⟨k + 1, by omega, by go_num, int_congr (by have := HA1.out; omega), int_congr (by have := HA1.out; omega), ho4, hbr.trans hb4, HG2.out⟩
        case measure => simp [intOf]; omega
    · obtain rfl : m = k := by omega
      have HY := hide (ovG_all (n := n) (ss := ss) (fun j hj => hgood.out j (by rw [← HX.out]; exact hj)))
      have hlA := ovL_len HN.out hgood.out
      obtain ⟨A4, c4, rfl, ho⟩ := hown.form
      obtain ⟨a, ha⟩ := ex_eq (ovA ss m)
      by_cases han : a = n
      · subst han
        have hHY : ovG a ss = true := by rw [HY.out, HX.out, ha]; simp
        have HHY := hide hHY
        rw [ha]
        clear hHY ha hlA hown
        have hbq : ((a : Int) != (a : Int)) = false := by simp
        go_wp2
        go_ret2
        have e2 : OUT = ovL xs ss m := by rw [HOU.out, HHY.out]; rfl
        rw [HOK.out, HHY.out, e2]
        exact ⟨A4, c4, rfl, by rw [HG.out]; exact ho, by rw [HG.out]; exact hb.trans hbr⟩
      · have hHY : ovG n ss = false := by rw [HY.out, HX.out, ha]; simp [han]
        have HHY := hide hHY
        rw [ha]
        rw [ha] at hal
        have hbq : ((a : Int) != (n : Int)) = true := by rw [bne_iff_ne]; omega
        have hbq2 : ((n : Int) - (a : Int) != 0) = true := by rw [bne_iff_ne]; omega
        clear hHY ha hlA hown han
        go_wp2
        go_ret2
        rw [HOK.out, HOU.out, HHY.out]
        exact ⟨none, 0, rfl, Own.nil _ _, by rw [HG.out]; exact hb.trans hbr⟩

end Go.Proofs.Ytfncmgaeecjacaa.deck
