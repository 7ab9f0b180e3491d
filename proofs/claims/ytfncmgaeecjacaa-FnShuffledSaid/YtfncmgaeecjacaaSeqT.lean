/-
  A region that draws its order, whose first operations leave no choice and whose last ones only read: it is walked from first to last. Conditions: those of each theorem.
-/
import Derived.Still
import Derived.StillTactics
import Derived.Test.YtfncmgaeecjacaaProg
namespace Go.Proofs.Ytfncmgaeecjacaa.seqt
open Go

section
variable {P : Program} {ops : Array Oper} {md : Region.Mode} {Q : Exit → Act → World → Prop}
/-- as Q, but N where the operations come to their end -/
def tailQ (Q : Exit → Act → World → Prop) (N : Act → World → Prop) : Exit → Act → World → Prop
  | .normal, a, w => N a w
  | .exit i, a, w => Q (.exit i) a w
  | .goto i, a, w => Q (.goto i) a w
  | .ret, a, w => Q .ret a w
  | .panic c, a, w => Q (.panic c) a w
  | .outgrown, a, w => Q .outgrown a w
theorem wp_tailQ {N : Act → World → Prop} {o : Oper} {a : Act} {w : World} {K : Act → World → Prop} (h : o.wp P a w K (tailQ Q N)) : o.wp P a w K Q := by
  unfold Oper.wp at *
  generalize (execOp a.eval o).run P w = r at *
  cases r with
  | ok n w' =>
    cases n <;> simp only [Oper.upon] at h ⊢ <;> first | exact h | exact Calls.mono h (fun e w'' he => by cases e <;> exact he)
  | halt x w' => cases x <;> simp only [Oper.upon] at h ⊢ <;> exact h
theorem wpOp_tailQ {N : Act → World → Prop} {i : Nat} {a : Act} {w : World} {K : Act → World → Prop} (h : wpOp P ops (tailQ Q N) i K a w) : wpOp P ops Q i K a w := by
  unfold wpOp at *
  split
  · rename_i ho; simp only [ho] at h; exact h
  · rename_i o ho
    simp only [ho] at h
    split
    · rename_i hw; simp only [hw, if_true] at h; exact h.imp wp_tailQ id
    · rename_i hw; simp only [hw] at h; exact h
/-- the first k of N have come up -/
def lst (N k : Nat) : Array Bool := ((List.range N).map fun i => decide (i < k)).toArray
theorem lst_none (N : Nat) : lst N 0 = Array.replicate N false := by
  unfold lst
  apply Array.ext
  · simp
  · intro i h1 h2; simp
theorem lst_set {N k : Nat} : (lst N k).setIfInBounds k true = lst N (k + 1) := by
  unfold lst
  apply Array.ext
  · simp
  · intro i h1 h2
    have hi : i < N := by simpa using h2
    by_cases h : k = i
    · subst h; simp
    · rw [Array.getElem_setIfInBounds_ne (by simpa using hi) h]
      simp
      omega
theorem lst_false {N k j : Nat} : (lst N k).getD j true = false ↔ j < N ∧ k ≤ j := by
  unfold lst
  by_cases h : j < N
  · simp [h]
  · simp [h]
theorem lst_true {N k j : Nat} : (lst N k).getD j false = true ↔ j < N ∧ j < k := by
  unfold lst
  by_cases h : j < N
  · simp [h]
  · simp [h]
/-- the last place from k to m that is not in a list -/
def lastF (fr : List Nat) (k : Nat) : Nat → Option Nat
  | 0 => none
  | m + 1 => if m < k then none else if fr.contains m then lastF fr k m else some m
theorem lastF_ge {fr : List Nat} {k q : Nat} (hk : k ≤ q) (hf : fr.contains q = false) : ∀ m, q < m → ∃ p, lastF fr k m = some p ∧ q ≤ p
  | 0, h => by omega
  | m + 1, h => by
    rw [lastF, if_neg (by omega)]
    by_cases hm : fr.contains m = true
    · rw [if_pos hm]
      rcases Nat.lt_or_eq_of_le (Nat.le_of_lt_succ h) with h1 | h1
      · exact lastF_ge hk hf m h1
      · subst h1; rw [hf] at hm; cases hm
    · rw [if_neg hm]; exact ⟨m, rfl, by omega⟩
def okAt (fr : List Nat) (k m j : Nat) (o : Oper) : Bool :=
  (decide (j < k) || decide (m ≤ j) || o.after.toList.all fun e => !Region.binds .any e || decide (e.on < j)) &&
    (match lastF fr k (min j m) with
     | none => true
     | some q => o.after.toList.any fun e => Region.binds .any e && decide (q ≤ e.on))
def chainOk (fr : List Nat) (k m : Nat) : List Oper → Nat → Bool
  | [], _ => true
  | o :: l, j => okAt fr k m j o && chainOk fr k m l (j + 1)
theorem chain_at {fr : List Nat} {k m : Nat} : ∀ (l : List Oper) (j : Nat), chainOk fr k m l j = true → ∀ i o, l[i]? = some o → okAt fr k m (j + i) o = true
  | [], _, _, i, o, h => by simp at h
  | x :: l, j, hc, i, o, h => by
    rw [chainOk, Bool.and_eq_true] at hc
    cases i with
    | zero => simp at h; subst h; exact hc.1
    | succ i =>
      have := chain_at l (j + 1) hc.2 i o (by simpa using h)
      rw [show j + (i + 1) = j + 1 + i by omega]; exact this
theorem ready_head {fr : List Nat} {l : List Oper} {k m q : Nat} (hc : chainOk fr k m l 0 = true) (hk : k ≤ q) (hq : q < m) (hf : fr.contains q = false) (hm : m ≤ l.length) (i : Nat) : i ∈ Region.ready .any l.toArray (lst l.length q) ↔ i = q := by
  rw [mem_ready, lst_false]
  constructor
  · rintro ⟨⟨h1, h2⟩, o, ho, h3⟩
    have h4 := chain_at l 0 hc i o (by simpa using ho)
    rw [Nat.zero_add] at h4
    rcases Nat.lt_or_eq_of_le h2 with h5 | h5
    · obtain ⟨p, hp, hpq⟩ := lastF_ge hk hf (min i m) (by omega)
      rw [okAt, hp, Bool.and_eq_true] at h4
      simp only [List.any_eq_true, Bool.and_eq_true, decide_eq_true_eq] at h4
      obtain ⟨e, he, hb, hle⟩ := h4.2
      have h7 := h3 e (by simpa using he) hb
      rw [lst_true] at h7
      omega
    · exact h5.symm
  · rintro rfl
    refine ⟨⟨by omega, Nat.le_refl _⟩, l[i]'(by omega), by simp [show i < l.length by omega], fun e he hb => ?_⟩
    have h4 := chain_at l 0 hc i _ (List.getElem?_eq_getElem (show i < l.length by omega))
    rw [Nat.zero_add, okAt, Bool.and_eq_true] at h4
    have h5 := h4.1
    simp only [Bool.or_eq_true, decide_eq_true_eq, List.all_eq_true] at h5
    rcases h5 with (h5 | h5) | h5
    · omega
    · omega
    · have h6 := h5 e (by simpa using he)
      rw [hb] at h6
      simp at h6
      rw [lst_true]
      omega
def isMove (o : Oper) : Bool := match o.op with | .move _ => true | _ => false
def moveAt (ops : Array Oper) (k : Nat) : Bool := match ops[k]? with | some o => isMove o | none => false
theorem move_step {Q' : Exit → Act → World → Prop} {o : Oper} {l : List Oper} {a : Act} {w : World} (hx : isMove o = true) (h : wpList P ops Q' (o :: l) a w) : ∃ v, Yields P ops o v a ∧ wpList P ops Q' l (a.put o.dst v) w := by
  obtain ⟨x, hx⟩ : ∃ x, o.op = .move x := by
    unfold isMove at hx
    split at hx
    · exact ⟨_, by assumption⟩
    · cases hx
  have hrun : ∀ w, (execOp a.eval o).run P w = .ok (.value (a.eval x)) w := fun w => by unfold execOp; rw [hx]; rfl
  unfold wpList at h
  by_cases hw : Region.wanted o (yielded ops a.tmps) = true
  · rw [if_pos hw] at h
    refine ⟨a.eval x, .inl ⟨hw, hrun⟩, ?_⟩
    rcases h with h | h
    · unfold Oper.wp at h; rw [hrun] at h; exact h
    · exfalso
      have h1 := h.1.1
      have h2 : ((execOp a.eval o).runT P w #[]).2 = #[] := by unfold execOp; rw [hx]; rfl
      rw [h2] at h1
      simp at h1
  · rw [if_neg hw] at h
    exact ⟨undef, .inr ⟨by simpa using hw, rfl⟩, h⟩
/-- the post does not look at a slot where a panic leaves -/
def Blind (Q : Exit → Act → World → Prop) : Prop := ∀ c d v a w, Q (.panic c) (a.put d v) w → Q (.panic c) a w
def freeB (L : List Oper) (k : Nat) : Bool := moveAt L.toArray k && ((Region.ready .any L.toArray (lst L.length k)).contains k && Region.free .any L.toArray (lst L.length k) k)
theorem seq_run {L : List Oper} {fr : List Nat} {k0 m f : Nat} (hs : Region.noSelect L.toArray = true) (hQ : Blind Q) (hm : m ≤ L.length) (hc : chainOk fr k0 m L 0 = true) (hf : fr.all (freeB L) = true) : ∀ (l : List Oper) (k : Nat) (a : Act) (w : World), (∀ j, j < l.length → l[j]? = L.toArray[k + j]?) → k0 ≤ k → k + l.length = m →
    wpList P L.toArray (tailQ Q fun a w => wpAny P .any L.toArray Q f (lst L.length m) a w) l a w → wpAny P .any L.toArray Q (l.length + f) (lst L.length k) a w
  | [], k, a, w, hl, h0, hk, h => by
    rw [List.length_nil, Nat.zero_add]
    simp only [List.length_nil, Nat.add_zero] at hk
    subst hk
    exact h
  | o :: l, k, a, w, hl, h0k, hk, h => by
    rw [List.length_cons] at hk
    have h0 : L.toArray[k]? = some o := by simpa using (hl 0 (by simp)).symm
    have hl' : ∀ j, j < l.length → l[j]? = L.toArray[k + 1 + j]? := fun j hj => by have := hl (j + 1) (by simp; omega); simpa [Nat.add_assoc, Nat.add_comm 1 j] using this
    rw [List.length_cons, show l.length + 1 + f = l.length + f + 1 by omega]
    by_cases hfr : fr.contains k = true
    · have hfk := List.all_eq_true.1 hf k (by simpa using hfr)
      simp only [freeB, moveAt, h0, Bool.and_eq_true] at hfk
      obtain ⟨v, hy, hK⟩ := move_step hfk.1 h
      refine wpAny_take h0 hs hfk.2.2 hfk.2.1 (fun c a w => hQ c o.dst v a w) hy ?_
      rw [lst_set]
      exact seq_run hs hQ hm hc hf l (k + 1) _ _ hl' (by omega) (by omega) hK
    · have hr := ready_head hc h0k (show k < m by omega) (by simpa using hfr) hm
      refine ⟨fun h1 => ?_, fun i hi => ?_⟩
      · have := (hr k).2 rfl
        rw [h1] at this
        cases this
      · have hik := (hr i).1 hi
        subst hik
        rw [lst_set]
        have hw : wpOp P L.toArray (tailQ Q fun a w => wpAny P .any L.toArray Q f (lst L.length m) a w) i (wpList P L.toArray (tailQ Q fun a w => wpAny P .any L.toArray Q f (lst L.length m) a w) l) a w := by unfold wpOp; simp only [h0]; exact h
        exact wpOp_mono (fun a' w' h' => seq_run hs hQ hm hc hf l (i + 1) a' w' hl' (by omega) (by omega) h') (wpOp_tailQ hw)
/-- the region's head -/
theorem seq_start {id : Nat} {a : Act} {w : World} {l : List Oper} (hm : P.follows .mixedOrders = true) (h : wpAny P .any l.toArray Q (l.length - 0) (lst l.length 0) a w.drew) : (Code.region id l.toArray true).wp P Q a w := by
  rw [lst_none] at h
  exact wp_region_any hm (by simpa using h)
/-- operations k to m - 1: none leaves a choice, but for moves, which may come first -/
theorem seq_phase {a : Act} {w : World} {l : List Oper} (k m : Nat) (fr : List Nat) (hQ : Blind Q) (hs : (Region.noSelect l.toArray && (decide (k ≤ m) && decide (m ≤ l.length))) = true) (hc : chainOk fr k m l 0 = true) (hf : fr.all (freeB l) = true)
    (h : wpList P l.toArray (tailQ Q fun a w => wpAny P .any l.toArray Q (l.length - m) (lst l.length m) a w) ((l.drop k).take (m - k)) a w) : wpAny P .any l.toArray Q (l.length - k) (lst l.length k) a w := by
  simp only [Bool.and_eq_true, decide_eq_true_eq] at hs
  have h1 : ((l.drop k).take (m - k)).length = m - k := by simp; omega
  have := seq_run (f := l.length - m) hs.1 hQ hs.2.2 hc hf ((l.drop k).take (m - k)) k a w (fun j hj => by rw [h1] at hj; simp [hj]) (Nat.le_refl _) (by omega) h
  rw [h1, show m - k + (l.length - m) = l.length - k by omega] at this
  exact this
/-- two operations, the second of them a move that may come first -/
theorem seq_swap {a : Act} {w : World} {l : List Oper} (s : Nat) (hQ : Blind Q) (hs : (Region.noSelect l.toArray && decide (s + 2 ≤ l.length)) = true)
    (hc : (moveAt l.toArray (s + 1) && ((Region.ready .any l.toArray (lst l.length s)).contains (s + 1) && (Region.free .any l.toArray (lst l.length s) (s + 1) && decide (Region.ready .any l.toArray ((lst l.length s).setIfInBounds (s + 1) true) = [s])))) = true)
    (h : wpList P l.toArray (tailQ Q fun a w => wpAny P .any l.toArray Q (l.length - (s + 2)) (lst l.length (s + 2)) a w) (((l.drop (s + 1)).take 1) ++ ((l.drop s).take 1)) a w) : wpAny P .any l.toArray Q (l.length - s) (lst l.length s) a w := by
  simp only [Bool.and_eq_true, decide_eq_true_eq] at hs hc
  obtain ⟨c1, c2, c3, c4⟩ := hc
  have h1 : l.drop (s + 1) = l[s + 1]'(by omega) :: l.drop (s + 2) := List.drop_eq_getElem_cons (by omega)
  have h2 : l.drop s = l[s]'(by omega) :: l.drop (s + 1) := List.drop_eq_getElem_cons (by omega)
  have e1 : (l.drop (s + 1)).take 1 ++ (l.drop s).take 1 = [l[s + 1]'(by omega), l[s]'(by omega)] := by rw [h2, h1]; rfl
  rw [e1] at h
  have ho1 : l.toArray[s + 1]? = some (l[s + 1]'(by omega)) := by simp [show s + 1 < l.length by omega]
  have ho0 : l.toArray[s]? = some (l[s]'(by omega)) := by simp [show s < l.length by omega]
  have hmv : isMove (l[s + 1]'(by omega)) = true := by unfold moveAt at c1; rw [ho1] at c1; exact c1
  obtain ⟨v, hy, hK⟩ := move_step hmv h
  rw [show l.length - s = l.length - (s + 2) + 1 + 1 by omega]
  refine wpAny_take ho1 hs.1 c3 c2 (fun c a w => hQ c _ v a w) hy ?_
  refine wpAny_all c4 (by simp) fun i hi => ?_
  have hi : i = s := by simpa using hi
  subst hi
  rw [show ((lst l.length i).setIfInBounds (i + 1) true).setIfInBounds i true = lst l.length (i + 2) by rw [Array.setIfInBounds_comm _ _ (by omega), lst_set, lst_set]]
  have hw : wpOp P l.toArray (tailQ Q fun a w => wpAny P .any l.toArray Q (l.length - (i + 2)) (lst l.length (i + 2)) a w) i (wpList P l.toArray (tailQ Q fun a w => wpAny P .any l.toArray Q (l.length - (i + 2)) (lst l.length (i + 2)) a w) []) ((a.put (l[i + 1]'(by omega)).dst v)) w := by unfold wpOp; simp only [ho0]; exact hK
  exact wpOp_mono (fun a' w' h' => h') (wpOp_tailQ hw)
/-- the last operations only read -/
theorem seq_tail {a : Act} {w : World} {l : List Oper} (n : Nat) (hs : Region.noSelect l.toArray = true) (ht : Region.lexFrom .any l.toArray (l.length - n) n (lst l.length n) = true)
    (h : wpStill P l.toArray w (fun a' => Q .normal a' w) (l.drop n) a) : wpAny P .any l.toArray Q (l.length - n) (lst l.length n) a w := by
  have h2 : (l.drop n).length = l.length - n := by simp
  have := wpAny_of_still (fun _ h => h) _ _ _ (wpAnyS_lex (md := .any) hs (l.drop n) n (lst l.length n) a (fun j => by simp [List.getElem?_drop]) (by rw [h2]; exact ht) h)
  rw [h2] at this
  exact this
theorem wpList_app {l2 : List Oper} : ∀ (l1 : List Oper) (a : Act) (w : World), wpList P ops (tailQ Q fun a w => wpList P ops Q l2 a w) l1 a w → wpList P ops Q (l1 ++ l2) a w
  | [], _, _, h => h
  | o :: l1, a, w, h => by
    rw [List.cons_append]
    unfold wpList at h ⊢
    split
    · rename_i hw
      rw [if_pos hw] at h
      exact h.imp (fun h => wp_tailQ (Oper.wp_mono (fun a w h => wpList_app l1 a w h) h)) id
    · rename_i hw
      rw [if_neg hw] at h
      exact wpList_app l1 _ _ h
/-- a region that draws nothing, walked in two parts -/
theorem plain_cut {id : Nat} {a : Act} {w : World} {l : List Oper} (n : Nat) (h : wpList P l.toArray (tailQ Q fun a w => wpList P l.toArray Q (l.drop n) a w) (l.take n) a w) : (Code.region id l.toArray false).wp P Q a w := by
  refine wp_region_lit ?_
  have := wpList_app (l2 := l.drop n) (l.take n) a w h
  rwa [List.take_append_drop] at this
end

end Go.Proofs.Ytfncmgaeecjacaa.seqt
