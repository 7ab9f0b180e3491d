/-
  Boards that are drawn, in numbers alone. Conditions: those of each theorem.
-/
import Derived.Test.YtlldocdmjeeaaaaWinP
namespace Go.Proofs.Ytlldocdmjeeaaaa.hand
open Go.RowKit
open base mem grid

/-- seeds -/
def nextS (s : Nat) : Nat := (1664525 * s + 1013904223) % 4294967296
theorem nextS_lt (s : Nat) : nextS s < 4294967296 := Nat.mod_lt _ (by omega)
theorem nextS_int (sd : Nat) : (1664525 * (sd : Int) + 1013904223) % 4294967296 = ((nextS sd : Nat) : Int) := by unfold nextS; omega
def pickN (s n : Nat) : Nat := s * n / 4294967296
theorem pickN_lt {s n : Nat} (h : s < 4294967296) (hn : 0 < n) : pickN s n < n := by
  unfold pickN
  have h1 : s * n < 4294967296 * n := Nat.mul_lt_mul_of_pos_right h hn
  exact Nat.div_lt_of_lt_mul h1
theorem pickN_int (t n : Nat) (ht : t < 4294967296) (hn : n ≤ 1000) : wrap64 ((wrap64 ((t : Int) * (n : Int))).tdiv 4294967296) = ((pickN t n : Nat) : Int) := by
  have h1 : t * n ≤ 4294967296 * 1000 := Nat.mul_le_mul (by omega) hn
  have h2 : (t : Int) * (n : Int) = ((t * n : Nat) : Int) := by rw [Int.natCast_mul]
  rw [h2]
  unfold pickN
  generalize t * n = p at *
  rw [IntWalk.wrap64_in (p : Int) ⟨by omega, by omega⟩, Int.tdiv_eq_ediv_of_nonneg (by omega)]
  have h3 : (p : Int) / 4294967296 = ((p / 4294967296 : Nat) : Int) := by omega
  rw [h3]
  exact IntWalk.wrap64_in _ ⟨by omega, by omega⟩
/-- hands of two and a board that make different cards -/
def Good (pss : List (List Int)) (now : List Int) : Prop := (2 ≤ pss.length ∧ pss.length ≤ 4) ∧ (∀ p ∈ pss, p.length = 2) ∧ Fine (now ++ pss.flatten)
theorem can_good {pss : List (List Int)} {bs : List Int} {least : Nat} (h : canB pss bs least = true) : Good pss bs := ⟨(can_parts h).1, (can_parts h).2.2.1, (can_parts h).2.2.2⟩
theorem Good.pos {pss : List (List Int)} {now : List Int} (h : Good pss now) (h5 : now.length ≤ 5) : 0 < (unkL (pss ++ [now])).length := by
  refine unk_pos ?_
  have h4 := flat_len (pss := pss) (by rw [List.all_eq_true]; intro p hp; simpa using h.2.1 p hp)
  have h6 := h.1.2
  rw [List.flatten_append, List.length_append, h4]
  simp
  omega
theorem Good.seat {pss : List (List Int)} {now : List Int} (h : Good pss now) (j : Nat) (hj : j < pss.length) : Fine (pss.getD j [] ++ now) ∧ (pss.getD j []).length = 2 := by
  have e : pss.getD j [] = pss[j] := by simp [List.getD, hj]
  have hm : pss[j] ∈ pss := List.getElem_mem hj
  have hf := h.2.2
  have hn := List.nodup_append.1 hf.1
  have hpf : pss[j].Sublist pss.flatten := List.sublist_flatten_of_mem hm
  rw [e]
  refine ⟨fine_join ⟨hpf.nodup hn.2.1, fun x hx => hf.2 x (by simp; exact .inr ⟨_, hm, hx⟩)⟩ hf.left ?_, h.2.1 _ hm⟩
  intro x hx hb
  exact hn.2.2 x hb x (hpf.subset hx) rfl
theorem Good.push {pss : List (List Int)} {now : List Int} {x : Int} (h : Good pss now) (hx : x ∈ unkL (pss ++ [now])) : Good pss (now ++ [x]) := by
  obtain ⟨h1, h2⟩ := unk_mem2 hx
  have hn := List.nodup_append.1 h.2.2.1
  have h3 : x ∉ now := h2 now (by simp)
  refine ⟨h.1, h.2.1, ?_⟩
  refine fine_join (fine_join h.2.2.left ⟨by simp, fun y hy => by simp at hy; subst hy; exact h1⟩ ?_) ⟨hn.2.1, fun y hy => h.2.2.2 y (List.mem_append_right _ hy)⟩ ?_
  · intro y hy e
    simp at e
    subst e
    exact h3 hy
  · intro y hy hf
    rcases List.mem_append.1 hy with hy | hy
    · exact hn.2.2 y hy y hf rfl
    · simp at hy
      subst hy
      obtain ⟨p, hp, hyp⟩ := List.mem_flatten.1 hf
      exact h2 p (by simp [hp]) hyp
theorem getD_mem_lt {xs : List Int} {i : Nat} (h : i < xs.length) : xs.getD i 0 ∈ xs := by
  have : xs.getD i 0 = xs[i] := by simp [List.getD, h]
  rw [this]
  exact List.getElem_mem h
/-- one card less is left -/
theorem unk_less {pss : List (List Int)} {now : List Int} {i : Nat} (hi : i < (unkL (pss ++ [now])).length) :
    unkL (pss ++ [now ++ [(unkL (pss ++ [now])).getD i 0]]) = (unkL (pss ++ [now])).take i ++ (unkL (pss ++ [now])).drop (i + 1) := by
  have hnd := unk_nodup (pss ++ [now])
  obtain ⟨U, hU⟩ := ex_eq (unkL (pss ++ [now]))
  have h1 : ∀ x, unkL (pss ++ [now ++ [x]]) = U.filter fun y => !decide (y = x) := by
    intro x
    rw [← hU]
    unfold unkL
    rw [List.filter_filter]
    congr 1
    funext y
    unfold anyB hasB
    rw [List.any_append, List.any_append]
    cases (pss.any fun p => decide (y ∈ p)) <;> simp [Bool.and_comm]
  rw [hU] at hnd hi ⊢
  rw [h1]
  have e : U.getD i 0 = U[i] := by simp [List.getD, hi]
  have hs : U = U.take i ++ U[i] :: U.drop (i + 1) := by rw [← List.drop_eq_getElem_cons hi, List.take_append_drop]
  rw [e]
  obtain ⟨x, hx⟩ := ex_eq U[i]
  rw [hx] at hs ⊢
  obtain ⟨a, ha⟩ := ex_eq (U.take i)
  obtain ⟨b, hb⟩ := ex_eq (U.drop (i + 1))
  rw [ha, hb] at hs ⊢
  rw [hs] at hnd ⊢
  have hn := List.nodup_append.1 hnd
  have hnb := List.nodup_cons.1 hn.2.1
  rw [List.filter_append, List.filter_cons]
  have f1 : a.filter (fun y => !decide (y = x)) = a := List.filter_eq_self.2 fun y hy => by
    have : y ≠ x := fun e => hn.2.2 y hy x (by simp) e
    simp [this]
  have f2 : b.filter (fun y => !decide (y = x)) = b := List.filter_eq_self.2 fun y hy => by
    have : y ≠ x := fun e => hnb.1 (e ▸ hy)
    simp [this]
  rw [f1, f2]
  simp
/-- so many cards drawn to a board -/
def drG (nx : Nat → Nat) (pk : Nat → Nat → Nat) (pss : List (List Int)) : Nat → List Int → Nat → List Int × Nat
  | 0, now, s => (now, s)
  | k + 1, now, s => drG nx pk pss k (now ++ [(unkL (pss ++ [now])).getD (pk (nx s) (unkL (pss ++ [now])).length) 0]) (nx s)
theorem drG_succ (nx : Nat → Nat) (pk : Nat → Nat → Nat) (pss : List (List Int)) (k : Nat) (now : List Int) (s : Nat) : drG nx pk pss (k + 1) now s = drG nx pk pss k (now ++ [(unkL (pss ++ [now])).getD (pk (nx s) (unkL (pss ++ [now])).length) 0]) (nx s) := rfl
theorem drG_zero (nx : Nat → Nat) (pk : Nat → Nat → Nat) (pss : List (List Int)) (now : List Int) (s : Nat) : drG nx pk pss 0 now s = (now, s) := rfl
def drB (pss : List (List Int)) (k : Nat) (now : List Int) (s : Nat) : List Int × Nat := drG nextS pickN pss k now s
theorem drB_succ (pss : List (List Int)) (k : Nat) (now : List Int) (s : Nat) : drB pss (k + 1) now s = drB pss k (now ++ [(unkL (pss ++ [now])).getD (pickN (nextS s) (unkL (pss ++ [now])).length) 0]) (nextS s) := by
  unfold drB
  exact drG_succ _ _ _ _ _ _
theorem drB_zero (pss : List (List Int)) (now : List Int) (s : Nat) : drB pss 0 now s = (now, s) := by
  unfold drB
  exact drG_zero _ _ _ _ _
theorem drB_facts (pss : List (List Int)) (k : Nat) : ∀ (now : List Int) (s : Nat), Good pss now → k + now.length = 5 → s < 4294967296 → Good pss (drB pss k now s).1 ∧ (drB pss k now s).1.length = 5 ∧ (drB pss k now s).2 < 4294967296 := by
  induction k with
  | zero =>
    intro now s hg hl hs
    rw [drB_zero]
    exact ⟨hg, by rw [← hl]; exact (Nat.zero_add _).symm, hs⟩
  | succ k ih =>
    intro now s hg hl hs
    rw [drB_succ]
    have h1 := hg.pos (by omega)
    have h2 := pickN_lt (nextS_lt s) h1
    have h3 := hg.push (getD_mem_lt h2)
    refine ih _ _ h3 ?_ (nextS_lt s)
    rw [List.length_append, List.length_singleton]
    clear h1 h2 h3 hs
    omega
/-- so many boards drawn and met -/
abbrev Dwn := (List Int × List Int) × Nat
def dwR (pss : List (List Int)) (bs : List Int) (st : Dwn) : Dwn :=
  ((meetW pss (drB pss (5 - bs.length) bs st.2).1 st.1.1, meetT pss (drB pss (5 - bs.length) bs st.2).1 st.1.2), (drB pss (5 - bs.length) bs st.2).2)
def dwT (pss : List (List Int)) (bs : List Int) (s0 : Nat) : Nat → Dwn
  | 0 => ((zer pss.length, zer pss.length), s0)
  | j + 1 => dwR pss bs (dwT pss bs s0 j)
theorem dwT_succ (pss : List (List Int)) (bs : List Int) (s0 j : Nat) : dwT pss bs s0 (j + 1) = dwR pss bs (dwT pss bs s0 j) := by rw [dwT]
theorem dwT_zero (pss : List (List Int)) (bs : List Int) (s0 : Nat) : dwT pss bs s0 0 = ((zer pss.length, zer pss.length), s0) := by rw [dwT]
theorem dwR_seed (pss : List (List Int)) (bs : List Int) (st : Dwn) : (dwR pss bs st).2 = (drB pss (5 - bs.length) bs st.2).2 := by unfold dwR; exact Eq.refl _
theorem dwR_ups (pss : List (List Int)) (bs : List Int) (st : Dwn) : (dwR pss bs st).1.1 = meetW pss (drB pss (5 - bs.length) bs st.2).1 st.1.1 := by unfold dwR; exact Eq.refl _
theorem dwR_ties (pss : List (List Int)) (bs : List Int) (st : Dwn) : (dwR pss bs st).1.2 = meetT pss (drB pss (5 - bs.length) bs st.2).1 st.1.2 := by unfold dwR; exact Eq.refl _
theorem dwT_facts {pss : List (List Int)} {bs : List Int} (hg : Good pss bs) (h5 : bs.length ≤ 5) {s0 : Nat} (hs : s0 < 4294967296) (j : Nat) : (dwT pss bs s0 j).2 < 4294967296 ∧ (dwT pss bs s0 j).1.1.length = pss.length ∧ (dwT pss bs s0 j).1.2.length = pss.length := by
  induction j with
  | zero =>
    rw [dwT_zero]
    exact ⟨hs, List.length_replicate, List.length_replicate⟩
  | succ j ih =>
    obtain ⟨h1, h2, h3⟩ := ih
    rw [dwT_succ, dwR_seed, dwR_ups, dwR_ties, meetW_len, meetT_len]
    have h4 : 5 - bs.length + bs.length = 5 := by omega
    exact ⟨(drB_facts pss _ _ _ hg h4 h1).2.2, h2, h3⟩
def drwOk (pss : List (List Int)) (bs : List Int) (seed count : Int) : Bool := canB pss bs 0 && (inB seed 0 4294967295 && inB count 1 256)
def drwW (pss : List (List Int)) (bs : List Int) (seed count : Int) : List Int := if drwOk pss bs seed count = true then (dwT pss bs seed.toNat count.toNat).1.1 else []
def drwT (pss : List (List Int)) (bs : List Int) (seed count : Int) : List Int := if drwOk pss bs seed count = true then (dwT pss bs seed.toNat count.toNat).1.2 else []
def drwN (pss : List (List Int)) (bs : List Int) (seed count : Int) : Int := if drwOk pss bs seed count = true then ((dwT pss bs seed.toNat count.toNat).2 : Int) else 0
theorem drw_parts {pss : List (List Int)} {bs : List Int} {seed count : Int} (h : drwOk pss bs seed count = true) : canB pss bs 0 = true ∧ Good pss bs ∧ bs.length ≤ 5 ∧ (0 ≤ seed ∧ seed < 4294967296) ∧ (1 ≤ count ∧ count ≤ 256) := by
  unfold drwOk at h
  simp only [Bool.and_eq_true] at h
  obtain ⟨h1, h2, h3⟩ := h
  have := inB_yes h2
  have := inB_yes h3
  exact ⟨h1, can_good h1, (can_parts h1).2.1.2, by omega, by omega⟩
theorem drw_len {pss : List (List Int)} {bs : List Int} {seed count : Int} (h : drwOk pss bs seed count = true) : (dwT pss bs seed.toNat count.toNat).1.1.length = pss.length ∧ (dwT pss bs seed.toNat count.toNat).1.2.length = pss.length := by
  obtain ⟨_, hg, h5, hs, _⟩ := drw_parts h
  exact (dwT_facts hg h5 (s0 := seed.toNat) (by omega) _).2
theorem drwW_len (pss : List (List Int)) (bs : List Int) (seed count : Int) : (drwW pss bs seed count).length ≤ 1048576 := by
  unfold drwW
  split
  · rename_i h
    rw [(drw_len h).1]
    have := (drw_parts h).2.1.1
    omega
  · simp
theorem drwT_len (pss : List (List Int)) (bs : List Int) (seed count : Int) : (drwT pss bs seed count).length ≤ 1048576 := by
  unfold drwT
  split
  · rename_i h
    rw [(drw_len h).2]
    have := (drw_parts h).2.1.1
    omega
  · simp

end Go.Proofs.Ytlldocdmjeeaaaa.hand
