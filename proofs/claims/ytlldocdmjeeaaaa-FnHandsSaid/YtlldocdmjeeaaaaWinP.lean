/-
  Hands, a board and what is left, in numbers alone. Conditions: those of each theorem.
-/
import Derived.Test.YtlldocdmjeeaaaaWinC
import Derived.Test.YtlldocdmjeeaaaaCan
namespace Go.Proofs.Ytlldocdmjeeaaaa.hand
open Go.RowKit
open base mem grid

theorem can_parts {pss : List (List Int)} {bs : List Int} {least : Nat} (h : canB pss bs least = true) :
    (2 ≤ pss.length ∧ pss.length ≤ 4) ∧ (least ≤ bs.length ∧ bs.length ≤ 5) ∧ (∀ p ∈ pss, p.length = 2) ∧ Fine (bs ++ pss.flatten) := by
  unfold canB at h
  simp only [Bool.and_eq_true, decide_eq_true_eq, List.all_eq_true] at h
  exact ⟨h.1, h.2.1, fun p hp => by simpa using h.2.2.1 p hp, cards_nodup h.2.2.2⟩
theorem hasB_false {xs : List Int} {x : Int} (h : hasB xs x = false) : x ∉ xs := by
  intro hm
  unfold hasB at h
  simp at h
  exact h hm
theorem unk_mem2 {pss : List (List Int)} {x : Int} (h : x ∈ unkL pss) : (0 ≤ x ∧ x < 52) ∧ ∀ p ∈ pss, x ∉ p := by
  unfold unkL at h
  rw [List.mem_filter] at h
  obtain ⟨h1, h2⟩ := h
  unfold nums52 at h1
  obtain ⟨i, hi, rfl⟩ := List.mem_map.1 h1
  rw [List.mem_range] at hi
  refine ⟨by omega, fun p hp => ?_⟩
  refine hasB_false ?_
  rw [Bool.not_eq_true'] at h2
  unfold anyB at h2
  rw [List.any_eq_false] at h2
  simpa using h2 p hp
theorem nums_nodup : nums52.Nodup := by decide
theorem unk_nodup (pss : List (List Int)) : (unkL pss).Nodup := List.filter_sublist.nodup nums_nodup
theorem fine_join {xs ys : List Int} (hx : Fine xs) (hy : Fine ys) (h : ∀ x ∈ xs, x ∉ ys) : Fine (xs ++ ys) := by
  refine ⟨List.nodup_append.2 ⟨hx.1, hy.1, fun a ha b hb e => h a ha (e ▸ hb)⟩, fun x hm => ?_⟩
  rcases List.mem_append.1 hm with h1 | h1
  · exact hx.2 x h1
  · exact hy.2 x h1
theorem unk_fine (pss : List (List Int)) : Fine (unkL pss) := ⟨unk_nodup pss, fun _ hx => (unk_mem2 hx).1⟩
/-- a hand, the board, and what is left are different cards -/
theorem can_FW {pss : List (List Int)} {bs : List Int} {least : Nat} (h : canB pss bs least = true) : FW pss pss.length bs ((unkL (pss ++ [bs])).drop 0) := by
  obtain ⟨_, _, hp2, hf⟩ := can_parts h
  intro j hj
  have e : pss.getD j [] = pss[j] := by simp [List.getD, hj]
  have hm : pss[j] ∈ pss := List.getElem_mem hj
  rw [e]
  refine ⟨?_, hp2 _ hm⟩
  have hn := List.nodup_append.1 hf.1
  have hpf : pss[j].Sublist pss.flatten := List.sublist_flatten_of_mem hm
  refine fine_join (fine_join ⟨hpf.nodup hn.2.1, fun x hx => hf.2 x (by simp; exact .inr ⟨_, hm, hx⟩)⟩ hf.left ?_) (unk_fine _) ?_
  · intro x hx hb
    exact hn.2.2 x hb x (hpf.subset hx) rfl
  · intro x hx hu
    have h2 := (unk_mem2 hu).2
    rcases List.mem_append.1 hx with h1 | h1
    · exact h2 _ (by simp [hm]) h1
    · exact h2 bs (by simp) h1
theorem unk_pos {pss : List (List Int)} (h : pss.flatten.length < 52) : 0 < (unkL pss).length := by
  rcases Nat.eq_zero_or_pos (unkL pss).length with h0 | h0
  · exfalso
    have he := List.eq_nil_of_length_eq_zero h0
    unfold unkL at he
    rw [List.filter_eq_nil_iff] at he
    have hs : nums52 ⊆ pss.flatten := by
      intro x hx
      have h1 := he x hx
      simp [anyB] at h1
      obtain ⟨p, hp, hxp⟩ := h1
      have hxm : x ∈ p := of_decide_eq_true hxp
      exact List.mem_flatten.2 ⟨p, hp, hxm⟩
    have := List.Nodup.length_le_of_subset nums_nodup hs
    have h52 : nums52.length = 52 := by decide
    omega
  · exact h0
theorem can_left {pss : List (List Int)} {bs : List Int} {least : Nat} (h : canB pss bs least = true) : 0 < (unkL (pss ++ [bs])).length := by
  obtain ⟨h1, h2, h3, _⟩ := can_parts h
  refine unk_pos ?_
  have h4 := flat_len (pss := pss) (by rw [List.all_eq_true]; intro p hp; simpa using h3 p hp)
  rw [List.flatten_append, List.length_append, h4]
  simp
  omega
theorem results_four {fn : Func} {t u v x : Tmp} (h : fn.results = #[.tmp t, .tmp u, .tmp v, .tmp x]) (tmps : Array Value) (P : Program) (w : World) :
    (results fn tmps).run P w = .ok (.tuple #[tmps.getD t undef, tmps.getD u undef, tmps.getD v undef, tmps.getD x undef]) w := by
  simp [results, h]
/-! ### the counts -/
def zer (m : Nat) : List Int := List.replicate m 0
def winS (pss : List (List Int)) (bs : List Int) : Cnt := pw pss (5 - bs.length) bs (unkL (pss ++ [bs])) ((zer pss.length, zer pss.length), 0)
theorem pw_len (pss : List (List Int)) : ∀ (l : List Int) (k : Nat) (pre : List Int) (st : Cnt), (pw pss k pre l st).1.1.length = st.1.1.length ∧ (pw pss k pre l st).1.2.length = st.1.2.length
  | l, 0, pre, st => by
    rw [pw_zero]
    exact ⟨meetW_len _ _ _, meetT_len _ _ _⟩
  | [], k + 1, pre, st => ⟨rfl, rfl⟩
  | x :: l, k + 1, pre, st => by
    have h1 := pw_len pss l (k + 1) pre (pw pss k (pre ++ [x]) l st)
    have h2 := pw_len pss l k (pre ++ [x]) st
    exact ⟨h1.1.trans h2.1, h1.2.trans h2.2⟩
def winOk (pss : List (List Int)) (bs : List Int) : Bool := canB pss bs 3
def winW (pss : List (List Int)) (bs : List Int) : List Int := if winOk pss bs = true then (winS pss bs).1.1 else []
def winT (pss : List (List Int)) (bs : List Int) : List Int := if winOk pss bs = true then (winS pss bs).1.2 else []
def winN (pss : List (List Int)) (bs : List Int) : Int := if winOk pss bs = true then (winS pss bs).2 else 0
theorem winS_len (pss : List (List Int)) (bs : List Int) : (winS pss bs).1.1.length = pss.length ∧ (winS pss bs).1.2.length = pss.length := by
  have h := pw_len pss (unkL (pss ++ [bs])) (5 - bs.length) bs ((zer pss.length, zer pss.length), 0)
  unfold winS
  rw [h.1, h.2]
  simp [zer]
theorem winW_len (pss : List (List Int)) (bs : List Int) : (winW pss bs).length ≤ 1048576 := by
  unfold winW
  split
  · rename_i h
    rw [(winS_len pss bs).1]
    have := (can_parts h).1
    omega
  · simp
theorem winT_len (pss : List (List Int)) (bs : List Int) : (winT pss bs).length ≤ 1048576 := by
  unfold winT
  split
  · rename_i h
    rw [(winS_len pss bs).2]
    have := (can_parts h).1
    omega
  · simp

end Go.Proofs.Ytlldocdmjeeaaaa.hand
