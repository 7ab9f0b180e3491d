/-
  What the statement on hands asks of both packages, for different cards. Conditions: those of each theorem.
-/
import Derived.Test.YtlldocdmjeeaaaaHanL
import Derived.Test.YtlldocdmjeeaaaaFaceX
import Derived.Test.YtlldocdmjeeaaaaPairs
namespace Go.Proofs.Ytlldocdmjeeaaaa.hand
open Go.RowKit
open base mem grid

section
variable {A A2 : Option Addr} {n c n2 c2 : Nat} {xs ys : List Int} {w : World}
theorem bf_impl (hf : Fine xs) (h5 : 5 ≤ n) (h7 : n ≤ 7) (hR : Rd w w.heap.size A n xs) (hnc : n ≤ c) :
    Calls Try.prog 25 #[.slice A n c] w fun e w' => ∃ A' c', e = .returned (.tuple #[.slice A' 5 c', .int .i64 (bestL xs).2, .bool true]) ∧ Own w' w.heap.size A' 5 c' (bestL xs).1 ∧ Below w.heap.size w w' := by
  have hl := hR.len
  have hh : handB xs 5 7 = true := fine_hand hf (by omega) (by omega)
  have h1 := impl_BestFive A n c xs w hR (by omega) hnc
  have h2 := (best_ok hf (by omega)).1
  rw [show bfOut xs = (bestL xs).1 by unfold bfOut; rw [if_pos hh], show bfVal xs = (bestL xs).2 by unfold bfVal; rw [if_pos hh], h2, hh] at h1
  exact h1
theorem bf_spec (hf : Fine xs) (h5 : 5 ≤ n) (h7 : n ≤ 7) (hR : Rd w w.heap.size A n xs) (hnc : n ≤ c) :
    Calls Try.prog 24 #[.slice A n c] w fun e w' => ∃ A' c', e = .returned (.tuple #[.slice A' 5 c', .int .i64 (bestL xs).2, .bool true]) ∧ Own w' w.heap.size A' 5 c' (bestL xs).1 ∧ Below w.heap.size w w' := by
  have hl := hR.len
  have hh : handB xs 5 7 = true := fine_hand hf (by omega) (by omega)
  have h1 := spec_BestFive A n c xs w hR (by omega) hnc
  have h2 := (best_ok hf (by omega)).1
  rw [show bfOut xs = (bestL xs).1 by unfold bfOut; rw [if_pos hh], show bfVal xs = (bestL xs).2 by unfold bfVal; rw [if_pos hh], h2, hh] at h1
  exact h1
theorem vo_impl (hf : Fine xs) (hR : Rd w w.heap.size A 5 xs) (hnc : 5 ≤ c) :
    Calls Try.prog 23 #[.slice A 5 c] w fun e w' => e = .returned (.tuple #[.int .i64 (valL xs), .bool true]) ∧ Below w.heap.size w w' := by
  have hl := hR.len
  have hh : handB xs 5 5 = true := fine_hand hf (by omega) (by omega)
  have h1 := impl_ValueOf A 5 c xs w hR (by omega) hnc
  rw [hh, if_pos rfl] at h1
  exact h1
theorem vo_spec (hf : Fine xs) (hR : Rd w w.heap.size A 5 xs) (hnc : 5 ≤ c) :
    Calls Try.prog 22 #[.slice A 5 c] w fun e w' => e = .returned (.tuple #[.int .i64 (valL xs), .bool true]) ∧ Below w.heap.size w w' := by
  have hl := hR.len
  have hh : handB xs 5 5 = true := fine_hand hf (by omega) (by omega)
  have h1 := spec_ValueOf A 5 c xs w hR (by omega) hnc
  rw [hh, if_pos rfl] at h1
  exact h1
theorem ko_impl (hf : Fine xs) (hR : Rd w w.heap.size A 5 xs) (hnc : 5 ≤ c) :
    Calls Try.prog 21 #[.slice A 5 c] w fun e w' => e = .returned (.tuple #[.int .i64 (kindL xs), .bool true]) ∧ Below w.heap.size w w' := by
  have hl := hR.len
  have hh : handB xs 5 5 = true := fine_hand hf (by omega) (by omega)
  have h1 := impl_KindOf A 5 c xs w hR (by omega) hnc
  rw [hh, if_pos rfl] at h1
  exact h1
theorem ch_impl (hf : Fine xs) (hg : Fine ys) (h5 : 5 ≤ n) (h7 : n ≤ 7) (hv : (bestL ys).2 = (bestL xs).2) (hR : Rd w w.heap.size A n xs) (hnc : n ≤ c) (hS : Rd w w.heap.size A2 n ys) (hnc2 : n ≤ c2) :
    Calls Try.prog 29 #[.slice A n c, .slice A2 n c2] w fun e w' => e = .returned (.tuple #[.int .i64 0, .bool true]) ∧ Below w.heap.size w w' := by
  have hl := hR.len
  have hl2 := hS.len
  have h1 := impl_CompareHands A n c xs A2 n c2 ys w hR (by omega) hnc hS (by omega) hnc2
  have hk : cmpOk xs ys = true := by unfold cmpOk; rw [fine_hand hf (by omega) (by omega), fine_hand hg (by omega) (by omega)]; rfl
  have h0 : cmpOut xs ys = 0 := by unfold cmpOut cmpV; rw [if_pos hk, hv, if_neg (Int.lt_irrefl _), if_neg (Int.lt_irrefl _)]
  rw [h0, hk] at h1
  exact h1
theorem ih_impl (hf : Fine xs) (h5 : 5 ≤ n) (h7 : n ≤ 7) (hR : Rd w w.heap.size A n xs) (hnc : n ≤ c) :
    Calls Try.prog 18 #[.slice A n c] w fun e w' => e = .returned (.bool true) ∧ Below w.heap.size w w' := by
  have hl := hR.len
  have h1 := impl_IsHand A n c xs w hR (by omega) hnc
  rw [fine_hand hf (by omega) (by omega)] at h1
  exact h1
theorem fo_impl (hf : Fine xs) (h5 : 5 ≤ n) (h7 : n ≤ 7) (hR : Rd w w.heap.size A n xs) (hnc : n ≤ c) :
    Calls Try.prog 39 #[.slice A n c] w fun e w' => ∃ A' c', e = .returned (.tuple #[.slice A' n c', .bool true]) ∧ Own w' w.heap.size A' n c' (faceM ords24 xs) ∧ Below w.heap.size w w' := by
  have hl := hR.len
  have h1 := impl_FaceOf A n c xs w hR (by omega) hnc
  have hk : faceOk xs = true := fine_hand hf (by omega) (by omega)
  have ho : faceOut xs = faceM ords24 xs := by unfold faceOut; rw [if_pos hk]
  rw [ho, faceOut_of hk, hk, hl] at h1
  exact h1
theorem fo_spec (hf : Fine xs) (h5 : 5 ≤ n) (h7 : n ≤ 7) (hR : Rd w w.heap.size A n xs) (hnc : n ≤ c) :
    Calls Try.prog 38 #[.slice A n c] w fun e w' => ∃ A' c', e = .returned (.tuple #[.slice A' n c', .bool true]) ∧ Own w' w.heap.size A' n c' (faceM ords24 xs) ∧ Below w.heap.size w w' := by
  have hl := hR.len
  have h1 := spec_FaceOf A n c xs w hR (by omega) hnc
  have hk : faceOk xs = true := fine_hand hf (by omega) (by omega)
  have ho : faceOut xs = faceM ords24 xs := by unfold faceOut; rw [if_pos hk]
  rw [ho, faceOut_of hk, hk, hl] at h1
  exact h1
theorem oo_impl (hf : Fine xs) (v : Int) (hR : Rd w w.heap.size A 5 xs) (hnc : 5 ≤ c) :
    Calls Try.prog 37 #[.slice A 5 c, .int .i64 v] w fun e w' => ∃ A' c', e = .returned (.tuple #[.slice A' (outsL xs v).length c', .bool true]) ∧ Own w' w.heap.size A' (outsL xs v).length c' (outsL xs v) ∧ Below w.heap.size w w' := by
  have hl := hR.len
  have h1 := impl_OutsOf A 5 c xs v w hR (by omega) hnc
  have hk : outOk xs = true := fine_hand hf (by omega) (by omega)
  have ho : outsOut xs v = outsL xs v := by unfold outsOut; rw [if_pos hk]
  rw [ho, hk] at h1
  exact h1
theorem outsL_len (xs : List Int) (v : Int) : (outsL xs v).length ≤ 52 := Nat.le_trans (List.length_filter_le _ _) (by decide)
theorem bs_impl (hf : Fine xs) (hg : Fine ys) (h5 : 5 ≤ n) (h7 : n ≤ 7) (hv : (bestL ys).2 = (bestL xs).2) (kk : Int) (hk1 : 1 ≤ kk) (hk8 : kk ≤ 8) (hR : Rd w w.heap.size A n xs) (hnc : n ≤ c) (hA : A = none → c = 0) (hS : Rd w w.heap.size A2 n ys) (hnc2 : n ≤ c2) (hA2 : A2 = none → c2 = 0) {w2 : World}
    (hw : w2 = w.alloc (.cells #[.slice A n c, .slice A2 n c2] 22)) {g : Nat} (hgg : g = w.heap.size) :
    Calls Try.prog 33 #[.slice (some ⟨g, 0, none⟩) 2 2, .int .i64 kk] w2 fun e w' => ∃ A' c', e = .returned (.tuple #[.slice A' 2 c', .bool true]) ∧ Own w' w2.heap.size A' 2 c' [(bestL xs).2, (bestL xs).2] ∧ Below w2.heap.size w2 w' := by
  subst hw hgg
  have hl := hR.len
  have hl2 := hS.len
  have hrs : RdS (w.alloc (.cells #[.slice A n c, .slice A2 n c2] 22)) (w.alloc (.cells #[.slice A n c, .slice A2 n c2] 22)).heap.size (some ⟨w.heap.size, 0, none⟩) 2 [⟨A, n, c, xs⟩, ⟨A2, n, c2, ys⟩] := by
    refine ⟨rfl, fun t ht => ?_, fun _ => ⟨w.heap.size, 0, rfl, by simp, fun i t ht => ?_⟩⟩
    · simp at ht
      rcases ht with rfl | rfl
      · exact ⟨(hR.alloc (Nat.le_refl _) _).more (by simp), hnc, hA⟩
      · exact ⟨(hS.alloc (Nat.le_refl _) _).more (by simp), hnc2, hA2⟩
    · have hi : i < 2 := by have := (List.getElem?_eq_some_iff.1 ht).1; simpa using this
      have hh := cell_of_row (w.alloc (.cells #[.slice A n c, .slice A2 n c2] 22)) w.heap.size i #[.slice A n c, .slice A2 n c2] 22 (0, 0) (heap_alloc_new w _)
      rw [Nat.zero_add, hh]
      obtain rfl | rfl : i = 0 ∨ i = 1 := by omega
      · simp at ht; subst ht; rfl
      · simp at ht; subst ht; rfl
  have h1 := impl_BestShared (some ⟨w.heap.size, 0, none⟩) 2 2 _ [xs, ys] kk _ hrs rfl (by omega) (by intro p hp; simp at hp; rcases hp with rfl | rfl <;> omega)
  have hk : bshOk [xs, ys] kk = true := by
    unfold bshOk
    rw [inB_mk hk1 hk8]
    simp [fine_hand hf (lo := 5) (hi := 7) (by omega) (by omega), fine_hand hg (lo := 5) (hi := 7) (by omega) (by omega)]
  have ho : bshOut [xs, ys] kk = [(bestL xs).2, (bestL xs).2] := by
    unfold bshOut
    rw [if_pos hk]
    simp [hv]
  rw [ho, hk] at h1
  exact h1
theorem bs_impl2 {V : Int} (hf : Fine xs) (hg : Fine ys) (h5 : 5 ≤ n) (h7 : n ≤ 7) (hx : (bestL xs).2 = V) (hy : (bestL ys).2 = V) (hR : Rd w w.heap.size A n xs) (hnc : n ≤ c) (hA : A = none → c = 0) (hS : Rd w w.heap.size A2 n ys) (hnc2 : n ≤ c2) (hA2 : A2 = none → c2 = 0) :
    ∀ kk : Int, 1 ≤ kk → kk ≤ 8 → Calls Try.prog 33 #[.slice (some ⟨w.heap.size, 0, none⟩) 2 2, .int .i64 kk] (w.alloc (.cells #[.slice A n c, .slice A2 n c2] 22)) fun e w' => ∃ A' c', e = .returned (.tuple #[.slice A' 2 c', .bool true]) ∧ Own w' (w.alloc (.cells #[.slice A n c, .slice A2 n c2] 22)).heap.size A' 2 c' [V, V] ∧ Below (w.alloc (.cells #[.slice A n c, .slice A2 n c2] 22)).heap.size (w.alloc (.cells #[.slice A n c, .slice A2 n c2] 22)) w' := by
  intro kk hk1 hk8
  have h1 := bs_impl hf hg h5 h7 (hy.trans hx.symm) kk hk1 hk8 hR hnc hA hS hnc2 hA2 rfl rfl
  rw [hx] at h1
  exact h1
end

end Go.Proofs.Ytlldocdmjeeaaaa.hand
