/-
  TurnDeck of both packages answers the same. Conditions: those of each theorem.
-/
import Derived.Test.YtfncmgaeecjacaaDeck
import Derived.Test.YtfncmgaeecjacaaApp
namespace Go.Proofs.Ytfncmgaeecjacaa.deck
open Go.RowKit
open base mem

def rvTo (xs : List Int) : Nat → List Int
  | 0 => []
  | k + 1 => rvTo xs k ++ [xs.getD (xs.length - 1 - k) 0]
theorem rvTo_len (xs : List Int) (k : Nat) : (rvTo xs k).length = k := by induction k with | zero => rfl | succ k ih => simp [rvTo, ih]
theorem rvTo_eq (xs : List Int) (k : Nat) (h : k ≤ xs.length) : rvTo xs k = (xs.drop (xs.length - k)).reverse := by
  induction k with
  | zero => simp [rvTo]
  | succ k ih =>
    rw [rvTo, ih (by omega)]
    have hx : xs.length - (k + 1) < xs.length := by omega
    rw [List.drop_eq_getElem_cons hx, List.reverse_cons, show xs.length - (k + 1) + 1 = xs.length - k by omega]
    congr 2
    rw [show xs.length - 1 - k = xs.length - (k + 1) by omega]
    simp [List.getD, hx]
theorem rvTo_all (xs : List Int) : rvTo xs xs.length = xs.reverse := by rw [rvTo_eq _ _ (Nat.le_refl _)]; simp
def turnOut (xs : List Int) : List Int := if deckB xs then xs.reverse else []
theorem turnOut_len (xs : List Int) : (turnOut xs).length ≤ 1048576 := by
  unfold turnOut
  split
  · next h => have := deck_len h; simp; omega
  · simp

/-! ### the library's Clone and Reverse -/
set_option maxHeartbeats 1000000 in
theorem Clone_any (A : Option Addr) (n c : Nat) (xs : List Int) (w : World) (hR : Rd w w.heap.size A n xs) (hn : n ≤ 1048576) (hnone : A = none → n = 0 ∧ c = 0) :
    Calls Try.prog 88 #[.slice A n c] w fun e w' => ∃ A' c', e = .returned (.slice A' n c') ∧ Own w' w.heap.size A' n c' xs ∧ Below w.heap.size w w' := by
  have hnil := fun (w : World) (a : Option Addr) (l c : Nat) => Lib.run_eql_slice_nil (P := Try.prog) w 22 2 a l c 0 0 Try.underlying22
  cases A with
  | none =>
    obtain ⟨rfl, rfl⟩ := hnone rfl
    have hx : xs = [] := List.eq_nil_of_length_eq_zero hR.len
    subst hx
    clear hR
    go_enter Try.func88, Try.ntmps88
    go_wp2
    go_ret
    exact ⟨none, 0, rfl, Own.nil _ _, Below.refl _ _⟩
  | some ad =>
    have HL := hide hR.len
    go_enter Try.func88, Try.ntmps88
    go_wp2_with (at_builtin; refine wpList_app rfl (.tmp 5) (.tmp 6) rfl w.heap.size _ [] xs rfl (Lst.new w (Nat.le_refl _)) (some ad) n c rfl ((hR.alloc (Nat.le_refl _) _).more (by simp)) (fun h => by cases h) (by simp; omega) (by simp) ?_; intro v2 w2 ho2 hg2 _)
    have hb2 : Below w.heap.size w w2 := ((Below.refl _ _).alloc (Nat.le_refl _) _).trans ((Lst.new w (Nat.le_refl _)).grown hg2 (by simp))
    obtain ⟨A', c', rfl, ho⟩ := ho2.form
    clear hg2 ho2 hnil
    rw [List.nil_append, HL.out] at ho ⊢
    go_wp2
    go_ret
    exact ⟨A', c', rfl, ho, hb2⟩

/-- k exchanges from both ends on -/
def swTo (xs : List Int) : Nat → List Int
  | 0 => xs
  | k + 1 => ((swTo xs k).set k ((swTo xs k).getD (xs.length - 1 - k) 0)).set (xs.length - 1 - k) ((swTo xs k).getD k 0)
theorem swTo_len (xs : List Int) (k : Nat) : (swTo xs k).length = xs.length := by induction k with | zero => rfl | succ k ih => simp [swTo, ih]
theorem swTo_at (xs : List Int) (k : Nat) (h : 2 * k ≤ xs.length) (j : Nat) (hj : j < xs.length) :
    (swTo xs k)[j]? = if j < k ∨ xs.length - 1 - j < k then xs[xs.length - 1 - j]? else xs[j]? := by
  induction k generalizing j with
  | zero => simp [swTo]
  | succ k ih =>
    have e1 := ih (by omega) k (by omega)
    have e2 := ih (by omega) (xs.length - 1 - k) (by omega)
    rw [if_neg (by omega)] at e1 e2
    have g1 : (swTo xs k).getD k 0 = xs.getD k 0 := by simp only [List.getD, e1]
    have g2 : (swTo xs k).getD (xs.length - 1 - k) 0 = xs.getD (xs.length - 1 - k) 0 := by simp only [List.getD, e2]
    rw [swTo, g1, g2, List.getElem?_set, List.getElem?_set]
    simp only [List.length_set, swTo_len]
    by_cases h1 : xs.length - 1 - k = j
    · subst h1
      rw [if_pos rfl, if_pos (by omega), if_pos (by omega), show xs.length - 1 - (xs.length - 1 - k) = k by omega]
      have : k < xs.length := by omega
      simp [List.getD, this]
    · rw [if_neg h1]
      by_cases h2 : k = j
      · subst h2
        rw [if_pos rfl, if_pos (by omega), if_pos (by omega)]
        have : xs.length - 1 - k < xs.length := by omega
        simp [List.getD, this]
      · rw [if_neg h2, ih (by omega) j hj]
        by_cases h3 : j < k ∨ xs.length - 1 - j < k
        · rw [if_pos h3, if_pos (by omega)]
        · rw [if_neg h3, if_neg (by omega)]
theorem swTo_all (xs : List Int) (k : Nat) (h : 2 * k ≤ xs.length) (h' : xs.length ≤ 2 * k + 1) : swTo xs k = xs.reverse := by
  apply List.ext_getElem?
  intro j
  by_cases hj : j < xs.length
  · rw [swTo_at xs k h j hj, List.getElem?_reverse hj]
    by_cases h3 : j < k ∨ xs.length - 1 - j < k
    · rw [if_pos h3]
    · rw [if_neg h3]
      congr 1
      omega
  · rw [List.getElem?_eq_none (by rw [swTo_len]; omega), List.getElem?_eq_none (by simp; omega)]

set_option maxHeartbeats 1000000 in
theorem Reverse_any (A : Option Addr) (n c : Nat) (xs : List Int) (B : Nat) (w : World) (hR : Own w B A n c xs) (hn : n ≤ 1048576) (hB : B ≤ w.heap.size) :
    Calls Try.prog 89 #[.slice A n c] w fun e w' => e = .returned (.tuple #[]) ∧ Own w' B A n c xs.reverse ∧ Below B w w' := by
  have HX := hide hR.len
  have HB := hide hB
  clear hB
  go_enter Try.func89, Try.ntmps89
  go_wp2
  go_loopw [2, 3] (fun i j wr => ∃ k : Nat, 2 * k ≤ n ∧ i = .int .i64 k ∧ j = .int .i64 ((n : Int) - 1 - k) ∧ Own wr B A n c (swTo xs k) ∧ Below B w wr) (fun i _ _ => n - (intOf i).toNat)
  case atStart => exact ⟨0, by omega, rfl, by simp, hR, Below.refl _ _⟩
  case round =>
    obtain ⟨k, hk, rfl, rfl, hown, hb⟩ := hrel
    clear hR
    by_cases hlt : (k : Int) < (n : Int) - 1 - k
    · obtain ⟨g, rfl, hBg, hgs⟩ := hown.form (by omega)
      have hlen := swTo_len xs k
      rw [HX.out] at hlen
      have hi : (n : Int) - 1 - k = ((n - 1 - k : Nat) : Int) := by omega
      rw [hi] at hlt ⊢
      have hc1 := World.ownsRow.cellAt (h := hown) k (by omega)
      rw [ivs_at _ _ (by rw [hlen]; omega)] at hc1
      have hc2 := World.ownsRow.cellAt (h := hown) (n - 1 - k) (by omega)
      rw [ivs_at _ _ (by rw [hlen]; omega)] at hc2
      have hf1 := World.ownsRow.frozenAt (h := hown) k
      have hf2 := World.ownsRow.frozenAt (h := hown) (n - 1 - k)
      have hst1 := fun x : Int => World.ownsRow.stored (h := hown) k (.int .i64 x)
      have HT : Hid (∀ q : Nat, Own (((wr.setCell ⟨g, k, none⟩ (.int .i64 ((swTo xs k).getD (n - 1 - k) 0))).setCell ⟨g, n - 1 - k, none⟩ (.int .i64 ((swTo xs k).getD k 0))).drewN q) B (some ⟨g, 0, none⟩) n c (swTo xs (k + 1)) ∧
          Below B wr (((wr.setCell ⟨g, k, none⟩ (.int .i64 ((swTo xs k).getD (n - 1 - k) 0))).setCell ⟨g, n - 1 - k, none⟩ (.int .i64 ((swTo xs k).getD k 0))).drewN q)) := by
        intro q
        refine ⟨?_, below_drewN (((Below.refl _ _).setCell (by exact hBg) _).setCell (by exact hBg) _) q⟩
        have h1 := (World.ownsRow.stored (h := hown) k (.int .i64 ((swTo xs k).getD (n - 1 - k) 0))).1
        have h2 := (World.ownsRow.stored (h := h1) (n - 1 - k) (.int .i64 ((swTo xs k).getD k 0))).1
        rw [ivs_set, ivs_set] at h2
        have : swTo xs (k + 1) = ((swTo xs k).set k ((swTo xs k).getD (n - 1 - k) 0)).set (n - 1 - k) ((swTo xs k).getD k 0) := by rw [swTo, HX.out]
        rw [this]
        exact h2
      generalize (swTo xs k).getD (n - 1 - k) 0 = y at *
      generalize (swTo xs k).getD k 0 = x at *
      clear hst1 hown hlen
      generalize hj : n - 1 - k = j at *
      have HJ := hide hj
      have hkj : k < j := by omega
      have hjn : j < n := by omega
      clear hj hi hlt
      have hne : ¬ k = j := by omega
      go_wp2
      go_region
      go_wp2
      go_roundw
      case rel => exact ⟨k + 1, by have := HJ.out; omega, by go_num, by congr 1; have := HJ.out; omega, (HT.out 1).1, hb.trans (HT.out 1).2⟩
      case measure => simp [intOf]; omega
    · have HF := hide (swTo_all xs k (by rw [HX.out]; exact hk) (by rw [HX.out]; omega))
      go_wp2
      go_end0
      exact ⟨rfl, by rw [← HF.out]; exact hown, hb⟩

set_option maxHeartbeats 1000000 in
theorem impl_TurnDeck (A : Option Addr) (n c : Nat) (xs : List Int) (w : World) (hR : Rd w w.heap.size A n xs) (hn : n ≤ 1048576) (hnc : n ≤ c) :
    Calls Try.prog 62 #[.slice A n c] w fun e w' => ∃ A' c', e = .returned (.tuple #[.slice A' (turnOut xs).length c', .bool (deckB xs)]) ∧ Own w' w.heap.size A' (turnOut xs).length c' (turnOut xs) ∧ Below w.heap.size w w' := by
  have hL := IsDeck_b A n c xs w hR (by omega) hnc
  cases hD : deckB xs
  · have hO : turnOut xs = [] := by simp [turnOut, hD]
    rw [hD] at hL
    rw [hO]
    have HL := hide hL
    clear hL hO hD hR
    go_enter Try.func62, Try.ntmps62
    go_wp2_with fail
    refine HL.out.mono ?_
    rintro e w' ⟨rfl, hb⟩
    go_wp2
    go_ret2
    exact ⟨none, 0, rfl, Own.nil _ _, hb⟩
  · have hO : turnOut xs = xs.reverse := by simp [turnOut, hD]
    obtain ⟨hd1, hd2⟩ := deck_len hD
    have hl : xs.reverse.length = n := by rw [List.length_reverse, hR.len]
    rw [hR.len] at hd1 hd2
    rw [hD] at hL
    rw [hO, hl]
    have HL := hide hL
    clear hL hO hD hl
    go_enter Try.func62, Try.ntmps62
    go_wp2_with fail
    refine HL.out.mono ?_
    rintro e v1 ⟨rfl, hb⟩
    have hz := hb.size
    go_wp2_with fail
    refine (Clone_any A n c xs _ ((hR.below hb).more hz) hn (fun h => by obtain ⟨b, o, hA, _⟩ := hR.2 (by omega); rw [hA] at h; cases h)).mono ?_
    rintro e v2 ⟨A2, c2, rfl, ho2, hb2⟩
    have hz2 := hb2.size
    go_wp2_with fail
    refine (Reverse_any A2 n c2 xs v1.heap.size _ ho2 hn hz2).mono ?_
    rintro e v3 ⟨rfl, ho3, hb3⟩
    go_wp2
    go_ret2
    exact ⟨A2, c2, rfl, ho3.mono hz, (hb.trans (hb2.mono hz)).trans (hb3.mono hz)⟩
end Go.Proofs.Ytfncmgaeecjacaa.deck
