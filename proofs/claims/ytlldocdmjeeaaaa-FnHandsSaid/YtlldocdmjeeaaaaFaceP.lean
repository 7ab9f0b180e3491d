/-
  Hands with their suits exchanged, in numbers alone. Conditions: those of each theorem.
-/
import Derived.Test.YtlldocdmjeeaaaaSrt
import Derived.Test.YtlldocdmjeeaaaaMem2
namespace Go.Proofs.Ytlldocdmjeeaaaa.hand
open Go.RowKit
open base mem deck

/-! ### lists, the first one -/
def lexB : List Int → List Int → Bool
  | x :: xs, y :: ys => if x = y then lexB xs ys else decide (x < y)
  | _, _ => false
theorem lexB_tri : ∀ {xs ys : List Int}, xs.length = ys.length → lexB xs ys = false → lexB ys xs = false → xs = ys
  | [], [], _, _, _ => rfl
  | x :: xs, y :: ys, hl, h1, h2 => by
    unfold lexB at h1 h2
    by_cases e : x = y
    · subst e
      simp only [if_true] at h1 h2
      rw [lexB_tri (by simpa using hl) h1 h2]
    · rw [if_neg e] at h1
      rw [if_neg (fun h => e h.symm)] at h2
      simp at h1 h2
      omega
theorem lexB_trans : ∀ {xs ys zs : List Int}, lexB xs ys = true → lexB ys zs = true → lexB xs zs = true
  | [], _, _, h, _ => by simp [lexB] at h
  | _ :: _, [], _, h, _ => by simp [lexB] at h
  | _ :: _, _ :: _, [], _, h => by simp [lexB] at h
  | x :: xs, y :: ys, z :: zs, h1, h2 => by
    unfold lexB at h1 h2 ⊢
    by_cases e : x = y
    · subst e
      rw [if_pos rfl] at h1
      by_cases e2 : x = z
      · subst e2
        rw [if_pos rfl] at h2 ⊢
        exact lexB_trans h1 h2
      · rw [if_neg e2] at h2 ⊢
        exact h2
    · rw [if_neg e] at h1
      have h1' := of_decide_eq_true h1
      by_cases e2 : y = z
      · subst e2
        rw [if_neg e]
        exact h1
      · rw [if_neg e2] at h2
        have h2' := of_decide_eq_true h2
        rw [if_neg (by omega)]
        exact decide_eq_true (by omega)
/-- the better one of two -/
def pick2 (b l : List Int) : List Int := if b = [] ∨ lexB l b = true then l else b
def minL (b : List Int) (ls : List (List Int)) : List Int := ls.foldl pick2 b
theorem minL_step (b : List Int) (ls : List (List Int)) (l : List Int) : minL b (ls ++ [l]) = pick2 (minL b ls) l := by simp [minL]
theorem minL_nil (b : List Int) : minL b [] = b := rfl
theorem minL_facts (n : Nat) (hn : 0 < n) : ∀ (ls : List (List Int)) (b : List Int), b.length = n → (∀ l ∈ ls, l.length = n) → (minL b ls = b ∨ minL b ls ∈ ls) ∧ lexB b (minL b ls) = false ∧ ∀ y ∈ ls, lexB y (minL b ls) = false
  | [], b, hb, _ => ⟨.inl rfl, lexB_irr b, fun y hy => by cases hy⟩
  | l :: ls, b, hb, hl => by
    have hbn : b ≠ [] := fun e => by subst e; simp at hb; omega
    have hs : minL b (l :: ls) = minL (pick2 b l) ls := rfl
    rw [hs]
    unfold pick2
    by_cases h : lexB l b = true
    · rw [if_pos (.inr h)]
      obtain ⟨h1, h2, h3⟩ := minL_facts n hn ls l (hl l (by simp)) (fun y hy => hl y (by simp [hy]))
      refine ⟨.inr ?_, ?_, ?_⟩
      · rcases h1 with h1 | h1
        · rw [h1]; simp
        · simp [h1]
      · cases hc : lexB b (minL l ls) with
        | false => rfl
        | true => rw [lexB_trans h hc] at h2; cases h2
      · intro y hy
        rcases List.mem_cons.1 hy with rfl | hy
        · exact h2
        · exact h3 y hy
    · rw [if_neg (by rintro (h0 | h0); exact hbn h0; exact h h0)]
      obtain ⟨h1, h2, h3⟩ := minL_facts n hn ls b hb (fun y hy => hl y (by simp [hy]))
      refine ⟨?_, h2, ?_⟩
      · rcases h1 with h1 | h1
        · exact .inl h1
        · exact .inr (by simp [h1])
      · intro y hy
        rcases List.mem_cons.1 hy with rfl | hy
        · cases hc : lexB y (minL b ls) with
          | false => rfl
          | true =>
            rcases h1 with h1 | h1
            · rw [h1] at hc; exact absurd hc h
            · cases hb2 : lexB (minL b ls) b with
              | true => exact absurd (lexB_trans hc hb2) h
              | false =>
                have := lexB_tri (by rw [hb, hl _ (by simp [h1])]) h2 hb2
                rw [← this] at hc
                exact absurd hc h
        · exact h3 y hy
where
  lexB_irr : ∀ b : List Int, lexB b b = false
    | [] => rfl
    | x :: xs => by unfold lexB; rw [if_pos rfl]; exact lexB_irr xs
theorem minL_first (n : Nat) (hn : 0 < n) (ls : List (List Int)) (h0 : ls ≠ []) (hl : ∀ l ∈ ls, l.length = n) : minL [] ls ∈ ls ∧ ∀ y ∈ ls, lexB y (minL [] ls) = false := by
  cases ls with
  | nil => exact absurd rfl h0
  | cons l ls =>
    have hs : minL [] (l :: ls) = minL l ls := by unfold minL; simp [pick2]
    rw [hs]
    obtain ⟨h1, h2, h3⟩ := minL_facts n hn ls l (hl l (by simp)) (fun y hy => hl y (by simp [hy]))
    refine ⟨?_, ?_⟩
    · rcases h1 with h1 | h1
      · rw [h1]; simp
      · simp [h1]
    · intro y hy
      rcases List.mem_cons.1 hy with rfl | hy
      · exact h2
      · exact h3 y hy
theorem minL_same {n : Nat} (hn : 0 < n) {ls ks : List (List Int)} (h0 : ls ≠ []) (hl : ∀ l ∈ ls, l.length = n) (h : ∀ l, l ∈ ls ↔ l ∈ ks) : minL [] ls = minL [] ks := by
  have h0' : ks ≠ [] := by
    rintro rfl
    cases ls with
    | nil => exact h0 rfl
    | cons l _ => have := (h l).1 (by simp); cases this
  obtain ⟨a1, a2⟩ := minL_first n hn ls h0 hl
  obtain ⟨b1, b2⟩ := minL_first n hn ks h0' (fun l hm => hl l ((h l).2 hm))
  exact lexB_tri (by rw [hl _ a1, hl _ ((h _).2 b1)]) (b2 _ ((h _).1 a1)) (a2 _ ((h _).2 b1))
theorem minL_len {n : Nat} (hn : 0 < n) {ls : List (List Int)} (h0 : ls ≠ []) (hl : ∀ l ∈ ls, l.length = n) : (minL [] ls).length = n := hl _ (minL_first n hn ls h0 hl).1

/-! ### the orders of suits -/
def suits4 (k : Nat) : List Int := [((k % 4 : Nat) : Int), ((k / 4 % 4 : Nat) : Int), ((k / 16 % 4 : Nat) : Int), ((k / 64 : Nat) : Int)]
def diff4 (o : List Int) : Bool := (List.range 4).all fun i => !decide (o.getD i 0 ∈ o.take i)
def ords256 (n : Nat) : List (List Int) := ((List.range n).map suits4).filter diff4
def fcard (o : List Int) (c : Int) : Int := c % 13 + 13 * o.getD (c / 13).toNat 0
def faceOn (o cards : List Int) : List Int := srt (cards.map (fcard o))
theorem faceOn_len (o cards : List Int) : (faceOn o cards).length = cards.length := by unfold faceOn; rw [srt_len]; simp
def faceM (os : List (List Int)) (cards : List Int) : List Int := minL [] (os.map fun o => faceOn o cards)
theorem ords_step (n : Nat) : ords256 (n + 1) = if diff4 (suits4 n) = true then ords256 n ++ [suits4 n] else ords256 n := by
  unfold ords256
  rw [List.range_succ, List.map_append, List.filter_append]
  split
  · rename_i h; simp [h]
  · rename_i h; simp [h]
theorem faceM_step (os : List (List Int)) (o cards : List Int) : faceM (os ++ [o]) cards = pick2 (faceM os cards) (faceOn o cards) := by
  unfold faceM
  rw [List.map_append]
  exact minL_step _ _ _
theorem faceM_same {os ks : List (List Int)} {cards : List Int} (hc : 0 < cards.length) (h0 : os ≠ []) (h : ∀ l, l ∈ os ↔ l ∈ ks) : faceM os cards = faceM ks cards := by
  unfold faceM
  refine minL_same hc (by simpa using h0) (fun l hl => ?_) (fun l => ?_)
  · obtain ⟨o, _, rfl⟩ := List.mem_map.1 hl
    exact faceOn_len o cards
  · simp only [List.mem_map]
    exact ⟨fun ⟨o, ho, e⟩ => ⟨o, (h o).1 ho, e⟩, fun ⟨o, ho, e⟩ => ⟨o, (h o).2 ho, e⟩⟩
theorem faceM_len {os : List (List Int)} {cards : List Int} (hc : 0 < cards.length) (h0 : os ≠ []) : (faceM os cards).length = cards.length := by
  unfold faceM
  refine minL_len hc (by simpa using h0) fun l hl => ?_
  obtain ⟨o, _, rfl⟩ := List.mem_map.1 hl
  exact faceOn_len o cards
theorem faceM_len_any (os : List (List Int)) (cards : List Int) (hc : 0 < cards.length) : (faceM os cards).length = if os = [] then 0 else cards.length := by
  split
  · rename_i h; subst h; rfl
  · rename_i h; exact faceM_len hc h

/-! ### a list put in order, card by card -/
def inS (S : List Int) (x : Int) (k : Nat) (r : List Int) : List Int := S.take k ++ x :: (S.drop k ++ r)
theorem inS_len (S : List Int) (x : Int) (k : Nat) (r : List Int) : (inS S x k r).length = S.length + 1 + r.length := by
  unfold inS
  simp only [List.length_append, List.length_cons, List.length_take, List.length_drop]
  omega
theorem inS_at {S : List Int} {x : Int} {k : Nat} {r : List Int} (hk : k ≤ S.length) : (inS S x k r).getD k 0 = x := by
  unfold inS
  have : (S.take k).length = k := by rw [List.length_take]; omega
  unfold List.getD
  rw [List.getElem?_append_right (by omega), this, Nat.sub_self]
  rfl
theorem inS_bef {S : List Int} {x : Int} {k : Nat} {r : List Int} (h0 : k + 1 ≤ S.length) : (inS S x (k + 1) r).getD k 0 = S.getD k 0 := by
  unfold inS
  have : (S.take (k + 1)).length = k + 1 := by rw [List.length_take]; omega
  unfold List.getD
  rw [List.getElem?_append_left (by omega), List.getElem?_take, if_pos (by omega)]
theorem inS_swap {S : List Int} {x : Int} {k : Nat} {r : List Int} (h0 : k + 1 ≤ S.length) : ((inS S x (k + 1) r).set (k + 1) (S.getD k 0)).set k x = inS S x k r := by
  have e : S.getD k 0 = S[k] := by simp [List.getD, show k < S.length by omega]
  have ht : S.take (k + 1) = S.take k ++ [S[k]] := by rw [List.take_succ_eq_append_getElem (by omega)]
  have hl : (S.take k).length = k := by rw [List.length_take]; omega
  rw [e]
  unfold inS
  rw [ht, List.append_assoc]
  rw [List.set_append_right _ _ (by omega), hl, show k + 1 - k = 1 by omega]
  rw [List.set_append_right _ _ (by omega), hl, Nat.sub_self]
  show S.take k ++ x :: S[k] :: (S.drop (k + 1) ++ r) = _
  rw [List.drop_eq_getElem_cons (show k < S.length by omega)]
  rfl
theorem inS_done {S : List Int} {x : Int} {k : Nat} {p : List Int} (hS : S = srt p) (hk : k ≤ S.length) (hlo : k = 0 ∨ ¬ x < S.getD (k - 1) 0) (hhi : ∀ y ∈ S.drop k, x < y) : S.take k ++ x :: S.drop k = srt (p ++ [x]) := by
  have hs : List.Pairwise (fun a b : Int => a ≤ b) S := by rw [hS]; exact srt_sorted p
  refine srt_eq ?_ ?_
  · have h1 : (S.take k ++ x :: S.drop k).Perm (x :: S) := by
      have := List.perm_middle (l₁ := S.take k) (l₂ := S.drop k) (a := x)
      rwa [List.take_append_drop] at this
    have h2 : (x :: S).Perm (x :: p) := by rw [hS]; exact (srt_perm p).cons x
    exact h1.trans (h2.trans (List.perm_append_singleton x p).symm)
  · have hsp : List.Pairwise (fun a b : Int => a ≤ b) (S.take k ++ S.drop k) := by rw [List.take_append_drop]; exact hs
    obtain ⟨p1, p2, p3⟩ := List.pairwise_append.1 hsp
    refine List.pairwise_append.2 ⟨p1, List.pairwise_cons.2 ⟨fun y hy => Int.le_of_lt (hhi y hy), p2⟩, ?_⟩
    intro a ha b hb
    rcases List.mem_cons.1 hb with rfl | hb
    · rcases hlo with h0 | h0
      · subst h0; simp at ha
      · rcases Nat.eq_zero_or_pos k with hk0 | hk0
        · subst hk0; simp at ha
        · have hlt : k - 1 < S.length := by omega
          have ht : S.take k = S.take (k - 1) ++ [S[k - 1]] := by
            have := List.take_succ_eq_append_getElem (l := S) hlt
            rwa [show k - 1 + 1 = k by omega] at this
          have e : S.getD (k - 1) 0 = S[k - 1] := by simp [List.getD, hlt]
          rw [e] at h0
          rw [ht] at ha p1
          rcases List.mem_append.1 ha with ha | ha
          · have := (List.pairwise_append.1 p1).2.2 a ha _ (List.mem_singleton.2 rfl)
            omega
          · simp at ha
            subst ha
            omega
    · exact p3 a ha b hb

end Go.Proofs.Ytlldocdmjeeaaaa.hand
