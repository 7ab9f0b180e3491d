/-
  The library's Clone of a list of numbers. Conditions: those of the theorem.
-/
import Derived.Test.YtlldocdmjeeaaaaApp
namespace Go.Proofs.Ytlldocdmjeeaaaa.mem
open Go.RowKit
open base

set_option maxHeartbeats 1000000 in
theorem Clone_any (A : Option Addr) (n c : Nat) (xs : List Int) (w : World) (hR : Rd w w.heap.size A n xs) (hn : n ≤ 1048576) (hnone : A = none → n = 0 ∧ c = 0) :
    Calls Try.prog 66 #[.slice A n c] w fun e w' => ∃ A' c', e = .returned (.slice A' n c') ∧ Own w' w.heap.size A' n c' xs ∧ Below w.heap.size w w' := by
  have hnil := fun (w : World) (a : Option Addr) (l c : Nat) => Lib.run_eql_slice_nil (P := Try.prog) w 22 2 a l c 0 0 Try.underlying22
  cases A with
  | none =>
    obtain ⟨rfl, rfl⟩ := hnone rfl
    have hx : xs = [] := List.eq_nil_of_length_eq_zero hR.len
    subst hx
    clear hR
    go_enter Try.func66, Try.ntmps66
    go_wp2
    go_ret
    exact ⟨none, 0, rfl, Own.nil _ _, Below.refl _ _⟩
  | some ad =>
    have HL := hide hR.len
    go_enter Try.func66, Try.ntmps66
    go_wp2_with (at_builtin; refine wpList_app rfl (.tmp 5) (.tmp 6) rfl w.heap.size _ [] xs rfl (Lst.new w (Nat.le_refl _)) (some ad) n c rfl ((hR.alloc (Nat.le_refl _) _).more (by simp)) (fun h => by cases h) (by simp; omega) (by simp) ?_; intro v2 w2 ho2 hg2 _)
    have hb2 : Below w.heap.size w w2 := ((Below.refl _ _).alloc (Nat.le_refl _) _).trans ((Lst.new w (Nat.le_refl _)).grown hg2 (by simp))
    obtain ⟨A', c', rfl, ho⟩ := ho2.form
    clear hg2 ho2 hnil
    rw [List.nil_append, HL.out] at ho ⊢
    go_wp2
    go_ret
    exact ⟨A', c', rfl, ho, hb2⟩

end Go.Proofs.Ytlldocdmjeeaaaa.mem
