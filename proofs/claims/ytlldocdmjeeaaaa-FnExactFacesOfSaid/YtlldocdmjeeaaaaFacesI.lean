/-
  How many faces there are. Conditions: those of each theorem.
-/
import Derived.Test.YtlldocdmjeeaaaaFacesC
namespace Go.Proofs.Ytlldocdmjeeaaaa.hand
open Go.RowKit
open base mem grid deck

theorem blk_at (W : World) (t : TypeId) (cs : Array Value) (g : Nat) (hg : W.heap.size = g) : Blk (W.alloc (.cells cs t)) g t cs := by subst hg; exact Blk.new W t cs
def facesOk (n : Int) : Bool := inB n 1 3
def facesOut (n : Int) : Int := if n = 1 then 13 else if n = 2 then 169 else if n = 3 then 1755 else 0
theorem faces_fq (nn : Nat) (h1 : 1 ≤ nn) (h3 : nn ≤ 3) : fq nn [] (nums52.drop 0) 0 = facesOut nn := by
  rw [List.drop_zero, faces_count nn (by omega)]
  obtain rfl | rfl | rfl : nn = 1 ∨ nn = 2 ∨ nn = 3 := by omega
  · rw [count1]; rfl
  · rw [count2]; rfl
  · rw [count3]; rfl
theorem facesOk_in {n : Int} (h : 1 ≤ n ∧ n ≤ 3) : facesOk n = true := by unfold facesOk inB; simp; omega
theorem facesOk_out {n : Int} (h1 : ¬ n = 1) (h2 : ¬ n = 2) (h3 : ¬ n = 3) : facesOk n = false := by
  cases hk : facesOk n with
  | false => rfl
  | true => have := inB_yes hk; omega
set_option maxHeartbeats 2000000 in
theorem spec_FacesOf (n : Int) (w : World) : Calls Try.prog 40 #[.int .i64 n] w fun e w' => e = .returned (.tuple #[.int .i64 (facesOut n), .bool (facesOk n)]) ∧ Below w.heap.size w w' := by
  by_cases h1 : n = 1
  · subst h1
    go_enter Try.func40, Try.ntmps40
    go_wp2
    go_ret2
    exact ⟨rfl, Below.refl _ _⟩
  · by_cases h2 : n = 2
    · subst h2
      go_enter Try.func40, Try.ntmps40
      go_wp2
      go_ret2
      exact ⟨rfl, Below.refl _ _⟩
    · by_cases h3 : n = 3
      · subst h3
        go_enter Try.func40, Try.ntmps40
        go_wp2
        go_ret2
        exact ⟨rfl, Below.refl _ _⟩
      · have e1 : facesOut n = 0 := by simp [facesOut, h1, h2, h3]
        have e2 := facesOk_out h1 h2 h3
        have b1 : (n == 1) = false := by simp [h1]
        have b2 : (n == 2) = false := by simp [h2]
        have b3 : (n == 3) = false := by simp [h3]
        rw [e1, e2]
        clear e1 e2
        go_enter Try.func40, Try.ntmps40
        go_wp2
        go_ret2
        exact ⟨rfl, Below.refl _ _⟩

set_option maxRecDepth 100000 in
set_option maxHeartbeats 8000000 in
theorem impl_FacesOf (n : Int) (w : World) : Calls Try.prog 41 #[.int .i64 n] w fun e w' => e = .returned (.tuple #[.int .i64 (facesOut n), .bool (facesOk n)]) ∧ Below w.heap.size w w' := by
  cases hk : facesOk n
  · have e1 : facesOut n = 0 := by
      unfold facesOut
      rw [if_neg (fun h => by rw [facesOk_in (by omega)] at hk; cases hk), if_neg (fun h => by rw [facesOk_in (by omega)] at hk; cases hk), if_neg (fun h => by rw [facesOk_in (by omega)] at hk; cases hk)]
    have HK := hide (show inB n 1 3 = false from hk)
    rw [e1]
    clear e1 hk
    go_enter Try.func41, Try.ntmps41
    go_wp2_with (go_at_call 70; refine (within_any _ _ _ _).mono ?_; rintro e w' ⟨rfl, rfl⟩; rw [HK.out])
    go_ret2
    exact ⟨rfl, (Below.refl _ _).alloc (Nat.le_refl _) _⟩
  · have HK := hide (show inB n 1 3 = true from hk)
    have hin := inB_yes hk
    obtain ⟨nn, rfl⟩ := Int.eq_ofNat_of_zero_le (show 0 ≤ n by omega)
    have hn1 : 1 ≤ nn := by omega
    have hn3 : nn ≤ 3 := by omega
    have HFQ := hide (faces_fq nn hn1 hn3)
    obtain ⟨OUT, hOUT⟩ := ex_eq (facesOut (nn : Int))
    rw [hOUT] at HFQ ⊢
    have HSU := hide (suitOrders_any (w.alloc (.cells #[.int .i64 (nn : Int)] 2)))
    have hmf : ∀ (fn : Fn) (first cap : Array Value) (w : World), (Instr.makeFunc fn first cap).run Try.prog w = .ok (.func fn first cap) w := fun _ _ _ _ => rfl
    clear hk hin hOUT
    go_enter Try.func41, Try.ntmps41
    go_upto_region 4 with (first | (go_at_call 70; refine (within_any _ _ _ _).mono ?_; rintro e w' ⟨rfl, rfl⟩; rw [HK.out]) | (go_at_call 69; refine HSU.out.mono ?_; rintro e w2 ⟨A2, c2, ts, rfl, hs2, hc2⟩))
    go_upto_region 8 with fail
    have hz0 : w.heap.size < w2.heap.size := by have := hs2.below.size; simp at this; omega
    obtain ⟨X, hX⟩ : ∃ X, X = (((((w2.alloc (.cells #[.slice A2 24 c2] 32)).alloc (.cells #[.int .i64 0] 2)).alloc (.cells #[] 2)).alloc (.cells #[.slice (some ⟨w2.heap.size + 1 + 1, 0, none⟩) 0 0] 22)).alloc (.cells #[.func (.func 71) #[] #[.pointer (some ⟨w2.heap.size + 1 + 1 + 1, 0, none⟩), .pointer (some ⟨w.heap.size, 0, none⟩), .pointer (some ⟨w2.heap.size, 0, none⟩), .pointer (some ⟨w2.heap.size + 1, 0, none⟩), .pointer (some ⟨w2.heap.size + 1 + 1 + 1 + 1, 0, none⟩)]] 63)) := ⟨_, rfl⟩
    have hB : Below w2.heap.size w2 X := by
      rw [hX]
      exact (((((Below.refl _ _).alloc (Nat.le_refl _) _).alloc (by simp <;> omega) _).alloc (by simp <;> omega) _).alloc (by simp <;> omega) _).alloc (by simp <;> omega) _
    have hO : Blk X w2.heap.size 32 #[.slice A2 24 c2] := by rw [hX]; exact ((((Blk.new w2 _ _).alloc _).alloc _).alloc _).alloc _
    have hS : Blk X (w2.heap.size + 1) 2 #[.int .i64 0] := by rw [hX]; exact (((blk_at (w2.alloc _) _ _ _ (by simp)).alloc _).alloc _).alloc _
    have hE : Lst X w2.heap.size (.slice (some ⟨w2.heap.size + 1 + 1, 0, none⟩) 0 0) [] := by rw [hX]; exact ((Lst.new' ((w2.alloc _).alloc _) (by simp <;> omega) (by simp)).alloc _).alloc _
    have hF : Blk X (w2.heap.size + 1 + 1 + 1) 22 #[.slice (some ⟨w2.heap.size + 1 + 1, 0, none⟩) 0 0] := by rw [hX]; exact (blk_at (((w2.alloc _).alloc _).alloc _) _ _ _ (by simp)).alloc _
    have hP : Blk X (w2.heap.size + 1 + 1 + 1 + 1) 63 #[.func (.func 71) #[] #[.pointer (some ⟨w2.heap.size + 1 + 1 + 1, 0, none⟩), .pointer (some ⟨w.heap.size, 0, none⟩), .pointer (some ⟨w2.heap.size, 0, none⟩), .pointer (some ⟨w2.heap.size + 1, 0, none⟩), .pointer (some ⟨w2.heap.size + 1 + 1 + 1 + 1, 0, none⟩)]] := by rw [hX]; exact blk_at ((((w2.alloc _).alloc _).alloc _).alloc _) _ _ _ (by simp)
    have hNb : Blk X w.heap.size 2 #[.int .i64 (nn : Int)] := ((Blk.new w _ _).below hs2.below (by simp)).below hB hz0
    have hPF : PF w2.heap.size (w2.heap.size + 1) (w2.heap.size + 1 + 1 + 1) (w2.heap.size + 1 + 1 + 1 + 1) w.heap.size nn w2 X A2 c2 [] 0 :=
      ⟨⟨⟨by omega, by omega, by omega⟩, by omega, by omega, by omega⟩, ⟨⟨by omega, by omega⟩, by omega, by omega, hz0⟩, hNb, hO, hS, ⟨_, hF, hE, by simp [Value.ownBlock] <;> omega, by simp [Value.ownBlock], by simp [Value.ownBlock] <;> omega⟩, hP, hB⟩
    have HPK := hide (pickF w2.heap.size (w2.heap.size + 1) (w2.heap.size + 1 + 1 + 1) (w2.heap.size + 1 + 1 + 1 + 1) w.heap.size nn w2 A2 c2 ts (hs2.rd (by rw [← con_len, hc2, ords24_len])) hc2 hn1 hn3 nn [] 0 0 X (by simp) (by omega) (by simp) hPF)
    rw [HFQ.out] at HPK
    have hcp := hP.cell 0
    have HLW := hide (((Below.refl _ _).alloc (Nat.le_refl _) (.cells #[.int .i64 (nn : Int)] 2)).trans (hs2.below.mono (by simp)) : Below w.heap.size w w2)
    rw [← hX]
    clear hX hB hO hS hE hF hP hNb hPF hs2
    go_upto_region 9 with (go_at_call 71; refine HPK.out.mono ?_; rintro e w7 ⟨rfl, hS⟩)
    have hc := hS.sets.cell 0
    have HB7 := hide hS.low
    clear hS HPK hcp
    go_wp2
    go_ret2
    exact ⟨rfl, HLW.out.trans (HB7.out.mono HLW.out.size)⟩

end Go.Proofs.Ytlldocdmjeeaaaa.hand
