/-
  How many faces there are, in numbers alone. Conditions: those of each theorem.
-/
import Derived.Test.YtlldocdmjeeaaaaFaceI
namespace Go.Proofs.Ytlldocdmjeeaaaa.hand
open Go.RowKit
open base mem grid deck

/-! ### the picks, as the program makes them -/
def fm (pre : List Int) (st : Int) : Int := if faceM ords24 pre = pre then wrap64 (st + 1) else st
def fq : Nat → List Int → List Int → Int → Int
  | 0, pre, [], st => fm pre st
  | 0, pre, _ :: _, st => fm pre st
  | _ + 1, _, [], st => st
  | k + 1, pre, x :: l, st => fq (k + 1) pre l (fq k (pre ++ [x]) l st)
theorem fq_zero (pre l : List Int) (st : Int) : fq 0 pre l st = fm pre st := by cases l <;> rfl
theorem fq_drop (k : Nat) (pre xs : List Int) (st : Int) (i : Nat) (hi : i < xs.length) : fq (k + 1) pre (xs.drop i) st = fq (k + 1) pre (xs.drop (i + 1)) (fq k (pre ++ [xs.getD i 0]) (xs.drop (i + 1)) st) := by
  rw [List.drop_eq_getElem_cons hi]
  have : xs.getD i 0 = xs[i] := by simp [List.getD, hi]
  rw [this]
  rfl
theorem fq_over (k : Nat) (pre xs : List Int) (st : Int) (i : Nat) (hi : xs.length ≤ i) : fq (k + 1) pre (xs.drop i) st = st := by
  rw [List.drop_eq_nil_of_le hi]
  rfl
/-! ### counted -/
def fz (ck : List Int → Bool) : Nat → List Int → List Int → Nat
  | 0, pre, [] => if ck pre = true then 1 else 0
  | 0, pre, _ :: _ => if ck pre = true then 1 else 0
  | _ + 1, _, [] => 0
  | k + 1, pre, x :: l => fz ck k (pre ++ [x]) l + fz ck (k + 1) pre l
theorem fz_zero (ck : List Int → Bool) (pre l : List Int) : fz ck 0 pre l = if ck pre = true then 1 else 0 := by cases l <;> rfl
theorem fz_le (ck : List Int → Bool) : ∀ (l : List Int) (k : Nat) (pre : List Int), fz ck k pre l ≤ 2 ^ l.length
  | l, 0, pre => by
    rw [fz_zero]
    have : 0 < 2 ^ l.length := Nat.pow_pos (by decide)
    split <;> omega
  | [], k + 1, pre => by unfold fz; exact Nat.zero_le _
  | x :: l, k + 1, pre => by
    unfold fz
    have h1 := fz_le ck l k (pre ++ [x])
    have h2 := fz_le ck l (k + 1) pre
    rw [List.length_cons, Nat.pow_succ]
    omega
def ckF (pre : List Int) : Bool := decide (faceM ords24 pre = pre)
theorem fq_fz : ∀ (l : List Int) (k : Nat) (pre : List Int) (st : Int), 0 ≤ st → st + ((2 ^ l.length : Nat) : Int) ≤ 4611686018427387904 → fq k pre l st = st + (fz ckF k pre l : Nat)
  | l, 0, pre, st, h0, h1 => by
    rw [fq_zero, fz_zero]
    have : 0 < 2 ^ l.length := Nat.pow_pos (by decide)
    unfold fm ckF
    by_cases h : faceM ords24 pre = pre
    · rw [if_pos h, decide_eq_true h, if_pos rfl]
      exact IntWalk.wrap64_in _ ⟨by omega, by omega⟩
    · rw [if_neg h, decide_eq_false h, if_neg (by simp)]
      omega
  | [], k + 1, pre, st, h0, h1 => by unfold fq fz; simp
  | x :: l, k + 1, pre, st, h0, h1 => by
    unfold fq fz
    rw [List.length_cons, Nat.pow_succ] at h1
    have h2 := fz_le ckF l k (pre ++ [x])
    rw [fq_fz l k (pre ++ [x]) st h0 (by omega), fq_fz l (k + 1) pre _ (by omega) (by omega)]
    omega
theorem fz_congr (ck ck' : List Int → Bool) : ∀ (l : List Int) (k : Nat) (pre : List Int), (∀ s : List Int, s.Sublist l → s.length = k → ck (pre ++ s) = ck' (pre ++ s)) → fz ck k pre l = fz ck' k pre l
  | l, 0, pre, h => by
    have := h [] (List.nil_sublist _) rfl
    rw [List.append_nil] at this
    rw [fz_zero, fz_zero, this]
  | [], k + 1, pre, h => by unfold fz; rfl
  | x :: l, k + 1, pre, h => by
    unfold fz
    rw [fz_congr ck ck' l k (pre ++ [x]) (fun s hs hl => by
      have := h (x :: s) (hs.cons_cons x) (by simp [hl])
      simpa using this), fz_congr ck ck' l (k + 1) pre (fun s hs hl => h s (hs.cons x) hl)]
/-! ### in natural numbers, for the kernel -/
def cL (xs : List Nat) : List Int := xs.map fun (x : Nat) => (x : Int)
def fzN (ck : List Nat → Bool) : Nat → List Nat → List Nat → Nat
  | 0, pre, _ => cond (ck pre) 1 0
  | _ + 1, _, [] => 0
  | k + 1, pre, x :: l => Nat.add (fzN ck k (pre ++ [x]) l) (fzN ck (k + 1) pre l)
theorem fzN_eq (ck : List Int → Bool) : ∀ (l : List Nat) (k : Nat) (pre : List Nat), fz ck k (cL pre) (cL l) = fzN (fun s => ck (cL s)) k pre l
  | l, 0, pre => by rw [fz_zero]; unfold fzN; cases ck (cL pre) <;> rfl
  | [], k + 1, pre => rfl
  | x :: l, k + 1, pre => by
    have h1 := fzN_eq ck l k (pre ++ [x])
    have h2 := fzN_eq ck l (k + 1) pre
    have e : cL (pre ++ [x]) = cL pre ++ [(x : Int)] := by simp [cL]
    rw [e] at h1
    unfold fzN
    rw [← h1, ← h2]
    rfl
theorem fzN_congr (ck ck' : List Nat → Bool) : ∀ (l : List Nat) (k : Nat) (pre : List Nat), (∀ s : List Nat, s.Sublist l → s.length = k → ck (pre ++ s) = ck' (pre ++ s)) → fzN ck k pre l = fzN ck' k pre l
  | l, 0, pre, h => by
    have := h [] (List.nil_sublist _) rfl
    rw [List.append_nil] at this
    unfold fzN
    rw [this]
  | [], k + 1, pre, h => rfl
  | x :: l, k + 1, pre, h => by
    unfold fzN
    rw [fzN_congr ck ck' l k (pre ++ [x]) (fun s hs hl => by
      have := h (x :: s) (hs.cons_cons x) (by simp [hl])
      simpa using this), fzN_congr ck ck' l (k + 1) pre (fun s hs hl => h s (hs.cons x) hl)]
def insN (x : Nat) : List Nat → List Nat
  | [] => [x]
  | y :: l => cond (Nat.ble x y) (x :: y :: l) (y :: insN x l)
def sortN : List Nat → List Nat
  | [] => []
  | x :: l => insN x (sortN l)
def lexN : List Nat → List Nat → Bool
  | x :: xs, y :: ys => cond (Nat.beq x y) (lexN xs ys) (Nat.blt x y)
  | _, _ => false
theorem insN_perm (x : Nat) : ∀ l : List Nat, (insN x l).Perm (x :: l)
  | [] => List.Perm.refl _
  | y :: l => by
    unfold insN
    cases Nat.ble x y with
    | true => exact List.Perm.refl _
    | false => exact ((insN_perm x l).cons y).trans (List.Perm.swap x y l)
theorem sortN_perm : ∀ l : List Nat, (sortN l).Perm l
  | [] => List.Perm.refl _
  | x :: l => (insN_perm x (sortN l)).trans ((sortN_perm l).cons x)
theorem insN_sorted (x : Nat) : ∀ l : List Nat, List.Pairwise (fun a b => a ≤ b) l → List.Pairwise (fun a b => a ≤ b) (insN x l)
  | [], _ => by simp [insN]
  | y :: l, h => by
    unfold insN
    cases hb : Nat.ble x y with
    | true =>
      have hxy := Nat.le_of_ble_eq_true hb
      refine List.pairwise_cons.2 ⟨fun z hz => ?_, h⟩
      rcases List.mem_cons.1 hz with rfl | hz
      · exact hxy
      · exact Nat.le_trans hxy ((List.pairwise_cons.1 h).1 z hz)
    | false =>
      have hyx : y ≤ x := by
        rcases Nat.le_total x y with h' | h'
        · rw [Nat.ble_eq_true_of_le h'] at hb; cases hb
        · exact h'
      refine List.pairwise_cons.2 ⟨fun z hz => ?_, insN_sorted x l (List.pairwise_cons.1 h).2⟩
      have hz' := (insN_perm x l).mem_iff.1 hz
      rcases List.mem_cons.1 hz' with rfl | hz'
      · exact hyx
      · exact (List.pairwise_cons.1 h).1 z hz'
theorem sortN_sorted : ∀ l : List Nat, List.Pairwise (fun a b => a ≤ b) (sortN l)
  | [] => List.Pairwise.nil
  | x :: l => insN_sorted x _ (sortN_sorted l)
theorem srt_cL (l : List Nat) : srt (cL l) = cL (sortN l) := by
  refine (srt_eq ((sortN_perm l).map _) ?_).symm
  rw [List.pairwise_map]
  exact (sortN_sorted l).imp (fun h => by omega)
theorem lex_cL : ∀ xs ys : List Nat, lexB (cL xs) (cL ys) = lexN xs ys
  | [], _ => by cases ‹List Nat› <;> rfl
  | _ :: _, [] => rfl
  | x :: xs, y :: ys => by
    have ih := lex_cL xs ys
    show lexB ((x : Int) :: cL xs) ((y : Int) :: cL ys) = _
    unfold lexB lexN
    rw [ih]
    by_cases h : x = y
    · subst h
      rw [if_pos rfl, show Nat.beq x x = true from Nat.beq_refl x]
      rfl
    · have hb : Nat.beq x y = false := by
        cases hc : Nat.beq x y with
        | false => rfl
        | true => exact absurd (Nat.eq_of_beq_eq_true hc) h
      rw [if_neg (by omega), hb]
      show decide ((x : Int) < (y : Int)) = Nat.blt x y
      by_cases h2 : x < y
      · rw [decide_eq_true (by omega)]
        exact (Nat.ble_eq_true_of_le h2).symm
      · rw [decide_eq_false (by omega)]
        cases hc : Nat.blt x y with
        | false => rfl
        | true => exact absurd (Nat.le_of_ble_eq_true hc) h2
def fN (p : List Nat) (x : Nat) : Nat := Nat.add (Nat.mod x 13) (Nat.mul 13 (p.getD (Nat.div x 13) 0))
theorem fcard_cL (p : List Nat) (x : Nat) : fcard (cL p) (x : Int) = ((fN p x : Nat) : Int) := by
  have h : (cL p).getD (x / 13) 0 = ((p.getD (x / 13) 0 : Nat) : Int) := by
    unfold cL
    simp only [List.getD, List.getElem?_map]
    cases p[x / 13]? <;> rfl
  rw [fcard_nat _ _ _ h]
  show (x : Int) % 13 + 13 * _ = ((x % 13 + 13 * p.getD (x / 13) 0 : Nat) : Int)
  omega
def permsL : List (List Nat) := [[0, 1, 2, 3], [0, 1, 3, 2], [0, 2, 1, 3], [0, 2, 3, 1], [0, 3, 1, 2], [0, 3, 2, 1], [1, 0, 2, 3], [1, 0, 3, 2], [1, 2, 0, 3], [1, 2, 3, 0], [1, 3, 0, 2], [1, 3, 2, 0], [2, 0, 1, 3], [2, 0, 3, 1], [2, 1, 0, 3], [2, 1, 3, 0], [2, 3, 0, 1], [2, 3, 1, 0], [3, 0, 1, 2], [3, 0, 2, 1], [3, 1, 0, 2], [3, 1, 2, 0], [3, 2, 0, 1], [3, 2, 1, 0]]
theorem perms_eq : ords24 = permsL.map cL := by decide +kernel
def fastN (s : List Nat) : Bool := permsL.all fun p => !lexN (sortN (s.map (fN p))) s
theorem faceOn_cL (p s : List Nat) : faceOn (cL p) (cL s) = cL (sortN (s.map (fN p))) := by
  unfold faceOn
  have : (cL s).map (fcard (cL p)) = cL (s.map (fN p)) := by
    unfold cL
    rw [List.map_map, List.map_map]
    exact List.map_congr_left fun x _ => fcard_cL p x
  rw [this, srt_cL]
theorem fcard_id (x : Nat) (h : x < 52) : fN [0, 1, 2, 3] x = x := by
  unfold fN
  obtain h | h | h | h : x / 13 = 0 ∨ x / 13 = 1 ∨ x / 13 = 2 ∨ x / 13 = 3 := by omega
  all_goals
    show x % 13 + 13 * [0, 1, 2, 3].getD (x / 13) 0 = x
    rw [h]
    simp
    omega
theorem face_self {s : List Nat} (h0 : s ≠ []) (hs : List.Pairwise (fun a b => a ≤ b) s) (h52 : ∀ x ∈ s, x < 52) : ckF (cL s) = fastN s := by
  have hlen : 0 < (cL s).length := by
    cases s with
    | nil => exact absurd rfl h0
    | cons a b => simp [cL]
  have hall : ∀ l ∈ ords24.map (fun o => faceOn o (cL s)), l.length = (cL s).length := by
    intro l hl
    obtain ⟨o, _, rfl⟩ := List.mem_map.1 hl
    exact faceOn_len o _
  obtain ⟨h1, h2⟩ := minL_first _ hlen (ords24.map fun o => faceOn o (cL s)) (by simpa using ords24_ne) hall
  have hid : cL s ∈ ords24.map (fun o => faceOn o (cL s)) := by
    refine List.mem_map.2 ⟨cL [0, 1, 2, 3], by rw [perms_eq]; exact List.mem_map.2 ⟨[0, 1, 2, 3], by decide, rfl⟩, ?_⟩
    rw [faceOn_cL]
    have e1 : s.map (fN [0, 1, 2, 3]) = s := by
      conv => rhs; rw [← List.map_id s]
      exact List.map_congr_left fun x hx => fcard_id x (h52 x hx)
    rw [e1]
    have e2 : sortN s = s := List.Perm.eq_of_pairwise (le := fun a b : Nat => a ≤ b) (fun a b _ _ h1 h2 => by omega) (sortN_sorted s) hs (sortN_perm s)
    rw [e2]
  have key : (faceM ords24 (cL s) = cL s) ↔ ∀ p ∈ permsL, lexN (sortN (s.map (fN p))) s = false := by
    constructor
    · intro h p hp
      have hm : faceOn (cL p) (cL s) ∈ ords24.map (fun o => faceOn o (cL s)) := List.mem_map.2 ⟨cL p, by rw [perms_eq]; exact List.mem_map.2 ⟨p, hp, rfl⟩, rfl⟩
      have := h2 _ hm
      unfold faceM at h
      rw [h, faceOn_cL, lex_cL] at this
      exact this
    · intro h
      unfold faceM
      refine lexB_tri (hall _ h1) ?_ (h2 _ hid)
      obtain ⟨o, ho, e⟩ := List.mem_map.1 h1
      rw [← e]
      rw [perms_eq] at ho
      obtain ⟨p, hp, rfl⟩ := List.mem_map.1 ho
      rw [faceOn_cL, lex_cL]
      exact h p hp
  unfold ckF fastN
  by_cases h : faceM ords24 (cL s) = cL s
  · rw [decide_eq_true h]
    symm
    rw [List.all_eq_true]
    intro p hp
    rw [key.1 h p hp]
    rfl
  · rw [decide_eq_false h]
    symm
    rw [List.all_eq_false]
    have : ¬ ∀ p ∈ permsL, lexN (sortN (s.map (fN p))) s = false := fun h' => h (key.2 h')
    by_cases hex : ∃ p ∈ permsL, lexN (sortN (s.map (fN p))) s = true
    · obtain ⟨p, hp, e⟩ := hex
      exact ⟨p, hp, by rw [e]; simp⟩
    · exact absurd (fun p hp => by
        cases hc : lexN (sortN (s.map (fN p))) s with
        | false => rfl
        | true => exact absurd ⟨p, hp, hc⟩ hex) this
theorem nums_cL : nums52 = cL (List.range 52) := rfl
theorem range_sorted : List.Pairwise (fun a b : Nat => a ≤ b) (List.range 52) := by decide
theorem faces_count (n : Nat) (h0 : 0 < n) : fq n [] nums52 0 = ((fzN fastN n [] (List.range 52) : Nat) : Int) := by
  rw [fq_fz nums52 n [] 0 (by omega) (by decide +kernel), Int.zero_add, nums_cL]
  have h1 := fzN_eq ckF (List.range 52) n []
  have e : cL [] = [] := rfl
  rw [e] at h1
  rw [h1, fzN_congr (fun s => ckF (cL s)) fastN]
  intro s hs hl
  rw [List.nil_append]
  refine face_self (by rintro rfl; simp at hl; omega) (range_sorted.sublist hs) (fun x hx => List.mem_range.1 (hs.subset hx))
theorem count1 : fzN fastN 1 [] (List.range 52) = 13 := by decide +kernel
theorem count2 : fzN fastN 2 [] (List.range 52) = 169 := by decide +kernel
theorem count3 : fzN fastN 3 [] (List.range 52) = 1755 := by decide +kernel

end Go.Proofs.Ytlldocdmjeeaaaa.hand
