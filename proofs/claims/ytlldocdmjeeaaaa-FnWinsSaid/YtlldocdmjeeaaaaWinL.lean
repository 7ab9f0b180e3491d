/-
  What the counts of wins and ties add up to, in numbers alone. Conditions: those of each theorem.
-/
import Derived.Test.YtlldocdmjeeaaaaDrwP
namespace Go.Proofs.Ytlldocdmjeeaaaa.hand
open Go.RowKit
open base mem grid

theorem sum_set : ∀ (l : List Int) (k : Nat) (x : Int), k < l.length → (l.set k x).sum = l.sum - l.getD k 0 + x
  | [], _, _, h => absurd h (Nat.not_lt_zero _)
  | a :: l, 0, x, _ => by simp; omega
  | a :: l, k + 1, x, h => by
    have := sum_set l k x (by simpa using h)
    simp [List.getD] at this ⊢
    omega
theorem sum_pos : ∀ (l : List Int), (∀ i, 0 ≤ l.getD i 0) → 0 ≤ l.sum
  | [], _ => by simp
  | a :: l, h => by
    have h1 := sum_pos l (fun i => by simpa [List.getD] using h (i + 1))
    have h2 := h 0
    simp [List.getD] at h2 ⊢
    omega
theorem sum_most : ∀ (l : List Int) (c : Int), (∀ i, l.getD i 0 ≤ c) → l.sum ≤ c * l.length
  | [], _, _ => by simp
  | a :: l, c, h => by
    have h1 := sum_most l c (fun i => by simpa [List.getD] using h (i + 1))
    have h2 := h 0
    simp [List.getD, Int.mul_add] at h2 ⊢
    omega
theorem addT_sum {G vs : List Int} {M : Int} {b : Bool} (hG : ∀ i, 0 ≤ G.getD i 0 ∧ G.getD i 0 ≤ 1000000) (hl : G.length = vs.length) :
    ∀ k, k ≤ G.length → (addT G vs M b k).sum = G.sum + (if b = true then (cntV vs M k : Int) else 0) ∧ ∀ i, G.getD i 0 ≤ (addT G vs M b k).getD i 0 ∧ (addT G vs M b k).getD i 0 ≤ G.getD i 0 + (if b = true then 1 else 0)
  | 0, _ => by
    refine ⟨?_, fun i => ⟨Int.le_refl _, ?_⟩⟩
    · show G.sum = _
      simp [cntV]
    · show G.getD i 0 ≤ _
      split <;> omega
  | k + 1, hk => by
    obtain ⟨h1, h2⟩ := addT_sum (M := M) (b := b) hG hl k (by omega)
    have hc := cntV_step (vs := vs) (M := M) (k := k) (by omega)
    have hlat := addT_later G vs M b k k (Nat.le_refl _)
    have hlen := addT_len G vs M b k
    have hgk := hG k
    have hw : wrap64 (G.getD k 0 + 1) = G.getD k 0 + 1 := IntWalk.wrap64_in _ ⟨by omega, by omega⟩
    rw [addT_step, hc]
    by_cases hq : vs.getD k 0 = M ∧ b = true
    · rw [if_pos hq, if_pos hq.1]
      obtain ⟨hq1, rfl⟩ := hq
      rw [hlat, hw, sum_set _ _ _ (by omega), h1, hlat]
      refine ⟨by simp; omega, fun i => ?_⟩
      by_cases hi : i = k
      · subst hi
        have : ((addT G vs M true i).set i (G.getD i 0 + 1)).getD i 0 = G.getD i 0 + 1 := by
          have hx : i < (addT G vs M true i).length := by omega
          simp [List.getD, hx]
        rw [this]
        simp; omega
      · have : ((addT G vs M true k).set k (G.getD k 0 + 1)).getD i 0 = (addT G vs M true k).getD i 0 := by
          have : k ≠ i := fun e => hi e.symm
          simp [List.getD, List.getElem?_set_ne this]
        rw [this]
        exact h2 i
    · rw [if_neg hq]
      refine ⟨?_, h2⟩
      rw [h1]
      cases b with
      | false => rfl
      | true =>
        have : ¬ vs.getD k 0 = M := fun e => hq ⟨e, rfl⟩
        rw [if_neg this]
        simp
theorem maxT_mem {vs : List Int} : ∀ k, k < vs.length → maxT vs k ∈ vs
  | 0, h => getD_mem_lt h
  | k + 1, h => by
    have h1 := maxT_mem (vs := vs) k (by omega)
    have h2 := getD_mem_lt h
    unfold maxT
    rcases Int.le_total (maxT vs k) (vs.getD (k + 1) 0) with h3 | h3
    · rw [Int.max_eq_right h3]; exact h2
    · rw [Int.max_eq_left h3]; exact h1
theorem cnt_pos {vs : List Int} (h : 0 < vs.length) : 1 ≤ cntV vs (maxT vs (vs.length - 1)) vs.length := by
  unfold cntV
  rw [List.take_length]
  exact List.countP_pos_iff.2 ⟨_, maxT_mem (vs.length - 1) (by omega), by simp⟩
theorem at_most {l : List Int} {c : Int} {m : Nat} (_ : l.length = m) (h : ∀ i, 0 ≤ l.getD i 0 ∧ l.getD i 0 ≤ c) : ∀ i, 0 ≤ l.getD i 0 ∧ l.getD i 0 ≤ c := h
/-- one board more: either one win, or two ties at least -/
theorem meet_adds {pss : List (List Int)} {full ws ts : List Int} (hp : 0 < pss.length) (hw : ws.length = pss.length) (ht : ts.length = pss.length) (hW : ∀ i, 0 ≤ ws.getD i 0 ∧ ws.getD i 0 ≤ 1000000) (hT : ∀ i, 0 ≤ ts.getD i 0 ∧ ts.getD i 0 ≤ 1000000) :
    (((meetW pss full ws).sum = ws.sum + 1 ∧ meetT pss full ts = ts) ∨ (meetW pss full ws = ws ∧ ts.sum + 2 ≤ (meetT pss full ts).sum))
    ∧ (∀ i, ws.getD i 0 ≤ (meetW pss full ws).getD i 0 ∧ (meetW pss full ws).getD i 0 ≤ ws.getD i 0 + 1)
    ∧ (∀ i, ts.getD i 0 ≤ (meetT pss full ts).getD i 0 ∧ (meetT pss full ts).getD i 0 ≤ ts.getD i 0 + 1) := by
  have hv := valsW_len pss full
  have hc := cnt_pos (vs := valsW pss full) (by omega)
  rw [hv] at hc
  have same : ∀ (G vs : List Int) (M : Int) (k : Nat), addT G vs M false k = G := by
    intro G vs M k
    induction k with
    | zero => rfl
    | succ k ih => rw [addT_step, if_neg (by simp), ih]
  unfold meetW meetT
  obtain ⟨vs, hvs⟩ := ex_eq (valsW pss full)
  rw [hvs] at hv hc ⊢
  obtain ⟨M, hM⟩ := ex_eq (maxT vs (pss.length - 1))
  rw [hM] at hc ⊢
  by_cases h1 : cntV vs M pss.length = 1
  · have e : (cntV vs M pss.length == 1) = true := by simp [h1]
    rw [e]
    obtain ⟨a1, a2⟩ := addT_sum (M := M) (b := true) hW (hw.trans hv.symm) pss.length (by omega)
    rw [show (!true) = false from rfl, same]
    refine ⟨.inl ⟨?_, rfl⟩, fun i => by simpa using a2 i, fun i => ⟨Int.le_refl _, by omega⟩⟩
    rw [a1, h1]
    simp
  · have e : (cntV vs M pss.length == 1) = false := by simp [h1]
    rw [e]
    obtain ⟨a1, a2⟩ := addT_sum (M := M) (b := true) hT (ht.trans hv.symm) pss.length (by omega)
    rw [show (!false) = true from rfl, same]
    refine ⟨.inr ⟨rfl, ?_⟩, fun i => ⟨Int.le_refl _, by omega⟩, fun i => by simpa using a2 i⟩
    rw [a1]
    simp
    omega
/-- what holds of the counts after so many boards -/
structure WI (m : Nat) (B : Int) (st : Cnt) : Prop where
  lw : st.1.1.length = m
  lt : st.1.2.length = m
  w0 : ∀ i, 0 ≤ st.1.1.getD i 0 ∧ st.1.1.getD i 0 ≤ B
  t0 : ∀ i, 0 ≤ st.1.2.getD i 0 ∧ st.1.2.getD i 0 ≤ st.2 - st.1.1.sum
  n0 : 0 ≤ st.2 ∧ st.2 ≤ B
  ts : 2 * (st.2 - st.1.1.sum) ≤ st.1.2.sum
theorem WI.meet {pss : List (List Int)} {full : List Int} {B : Int} {st : Cnt} (h : WI pss.length B st) (hp : 0 < pss.length) (hB : B ≤ 10000) : WI pss.length (B + 1) (meetS pss full st) := by
  obtain ⟨⟨ws, ts⟩, n⟩ := st
  obtain ⟨lw, lt, w0, t0, n0, hs⟩ := h
  simp only at lw lt w0 t0 n0 hs
  have hsp := sum_pos ws (fun i => (w0 i).1)
  obtain ⟨h1, h2, h3⟩ := meet_adds (pss := pss) (full := full) hp lw lt (fun i => ⟨(w0 i).1, by have := (w0 i).2; omega⟩) (fun i => ⟨(t0 i).1, by have := (t0 i).2; omega⟩)
  have hn : wrap64 (n + 1) = n + 1 := IntWalk.wrap64_in _ ⟨by omega, by omega⟩
  show WI pss.length (B + 1) ((meetW pss full ws, meetT pss full ts), wrap64 (n + 1))
  rw [hn]
  refine ⟨by simp [meetW_len, lw], by simp [meetT_len, lt], fun i => ?_, fun i => ?_, ⟨by simp only; omega, by simp only; omega⟩, ?_⟩
  · have := h2 i
    have := w0 i
    simp only
    omega
  · have hi := h3 i
    have hj := t0 i
    simp only
    rcases h1 with ⟨a, b⟩ | ⟨a, b⟩
    · rw [b, a]
      omega
    · rw [a]
      omega
  · simp only
    rcases h1 with ⟨a, b⟩ | ⟨a, b⟩
    · rw [b, a]
      omega
    · rw [a]
      omega
theorem WI.pw1 {pss : List (List Int)} {pre : List Int} (hp : 0 < pss.length) : ∀ (l : List Int) (B : Int) (st : Cnt), WI pss.length B st → B + l.length ≤ 10000 → WI pss.length (B + l.length) (pw pss 1 pre l st)
  | [], B, st, h, _ => by simpa [pw] using h
  | x :: l, B, st, h, hB => by
    have hB' : B + (l.length : Int) + 1 ≤ 10000 := by simp at hB; omega
    have h1 : WI pss.length (B + 1) (pw pss 0 (pre ++ [x]) l st) := by
      rw [pw_zero]
      exact h.meet hp (by omega)
    have h2 := WI.pw1 (pre := pre) hp l (B + 1) _ h1 (by omega)
    have e : B + ((x :: l).length : Int) = B + 1 + (l.length : Int) := by simp; omega
    rw [e]
    exact h2
theorem zer_at (m i : Nat) : (zer m).getD i 0 = 0 := by
  unfold zer
  by_cases h : i < m
  · simp [List.getD, h]
  · simp [List.getD, h]
theorem zer_sum (m : Nat) : (zer m).sum = 0 := by
  unfold zer
  induction m with
  | zero => rfl
  | succ m ih => rw [List.replicate_succ, List.sum_cons, ih]; rfl
theorem WI.start (m : Nat) : WI m 0 ((zer m, zer m), 0) := by
  refine ⟨by simp [zer], by simp [zer], fun i => ?_, fun i => ?_, ⟨by simp, by simp⟩, ?_⟩
  · simp only [zer_at]; omega
  · simp only [zer_at, zer_sum]; omega
  · simp only [zer_sum]; omega
theorem unk_le (pss : List (List Int)) : (unkL pss).length ≤ 52 := by
  unfold unkL
  refine Nat.le_trans (List.length_filter_le _ _) ?_
  have : nums52.length = 52 := by decide
  omega
/-- the counts of boards of which at most one card is not known -/
theorem win_adds {pss : List (List Int)} {bs : List Int} (hp : 0 < pss.length) (h4 : 4 ≤ bs.length) : WI pss.length 60 (winS pss bs) := by
  have hu := unk_le (pss ++ [bs])
  have more : ∀ {B : Int} {st : Cnt}, B ≤ 60 → WI pss.length B st → WI pss.length 60 st := fun hB h => ⟨h.lw, h.lt, fun i => ⟨(h.w0 i).1, Int.le_trans (h.w0 i).2 hB⟩, h.t0, ⟨h.n0.1, Int.le_trans h.n0.2 hB⟩, h.ts⟩
  unfold winS
  by_cases h5 : 5 ≤ bs.length
  · rw [show 5 - bs.length = 0 by omega, pw_zero]
    exact more (by omega) ((WI.start pss.length).meet hp (by omega))
  · rw [show 5 - bs.length = 1 by omega]
    exact more (by omega) (WI.pw1 hp _ 0 _ (WI.start pss.length) (by omega))
theorem dw_adds {pss : List (List Int)} {bs : List Int} (hg : Good pss bs) (h5 : bs.length ≤ 5) {s0 : Nat} (hs : s0 < 4294967296) : ∀ j, j ≤ 1000 →
    ((∀ i, 0 ≤ (dwT pss bs s0 j).1.1.getD i 0 ∧ (dwT pss bs s0 j).1.1.getD i 0 ≤ j) ∧ (∀ i, 0 ≤ (dwT pss bs s0 j).1.2.getD i 0 ∧ (dwT pss bs s0 j).1.2.getD i 0 ≤ j)) ∧ (dwT pss bs s0 j).1.1.sum ≤ j
  | 0, _ => by
    rw [dwT_zero]
    refine ⟨⟨fun i => ?_, fun i => ?_⟩, ?_⟩
    · simp only [zer_at]; exact ⟨Int.le_refl _, Int.le_refl _⟩
    · simp only [zer_at]; exact ⟨Int.le_refl _, Int.le_refl _⟩
    · simp only [zer_sum]; exact Int.le_refl _
  | j + 1, hj => by
    obtain ⟨⟨h1, h2⟩, h3⟩ := dw_adds hg h5 hs j (by omega)
    obtain ⟨_, l1, l2⟩ := dwT_facts hg h5 hs j
    have hp := hg.1.1
    rw [dwT_succ, dwR_ups, dwR_ties]
    obtain ⟨full, hfull⟩ := ex_eq (drB pss (5 - bs.length) bs (dwT pss bs s0 j).2).1
    rw [hfull]
    obtain ⟨ws, hws⟩ := ex_eq (dwT pss bs s0 j).1.1
    obtain ⟨ts, hts⟩ := ex_eq (dwT pss bs s0 j).1.2
    rw [hws] at h1 h3 l1
    rw [hts] at h2 l2
    rw [hws, hts]
    clear hws hts hfull
    obtain ⟨a1, a2, a3⟩ := meet_adds (pss := pss) (full := full) (by omega) l1 l2 (fun i => ⟨(h1 i).1, by have := (h1 i).2; omega⟩) (fun i => ⟨(h2 i).1, by have := (h2 i).2; omega⟩)
    refine ⟨⟨fun i => ?_, fun i => ?_⟩, ?_⟩
    · have := a2 i
      have := h1 i
      omega
    · have := a3 i
      have := h2 i
      omega
    · rcases a1 with ⟨a, _⟩ | ⟨a, _⟩
      · rw [a]; omega
      · rw [a]; omega

end Go.Proofs.Ytlldocdmjeeaaaa.hand
