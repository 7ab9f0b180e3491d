/-
  Lists of numbers in order. Conditions: none.
-/
import Derived.Test.YtfncmgaeecjacaaApp
namespace Go.Proofs.Ytfncmgaeecjacaa.deck
open Go.RowKit
open base mem

def srt (xs : List Int) : List Int := xs.mergeSort fun x y => decide (x ≤ y)
theorem srt_len (xs : List Int) : (srt xs).length = xs.length := by unfold srt; exact List.length_mergeSort xs
theorem srt_sorted (xs : List Int) : List.Pairwise (fun a b : Int => a ≤ b) (srt xs) := by
  have := List.pairwise_mergeSort (le := fun x y : Int => decide (x ≤ y)) (fun a b c h1 h2 => by simp at *; omega) (fun a b => by simp; omega) xs
  unfold srt
  simpa using this
theorem srt_perm (xs : List Int) : (srt xs).Perm xs := List.mergeSort_perm xs _
theorem srt_eq {xs ys : List Int} (hp : ys.Perm xs) (hs : List.Pairwise (fun a b : Int => a ≤ b) ys) : ys = srt xs :=
  List.Perm.eq_of_pairwise (le := fun a b : Int => a ≤ b) (fun a b _ _ h1 h2 => by omega) hs (srt_sorted xs) (hp.trans (srt_perm xs).symm)

end Go.Proofs.Ytfncmgaeecjacaa.deck
