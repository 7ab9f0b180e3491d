/-
  A list of indexes that a function makes by appending. Conditions: those of each theorem.
-/
import Derived.Test.YtlfffkjgepgcfaaApp
namespace Go.Proofs.Ytlfffkjgepgcfaa.mem
open Go.RowKit
open base

/-- the value v is a list of the call's own, from block B on, and holds xs -/
def LstN (w : World) (B : Nat) (v : Value) (xs : List Int) : Prop := w.ownsRow B 3 1 v xs.length (ivs xs)
section
variable {w w' : World} {B B' : Nat} {v : Value} {xs : List Int}
theorem LstN.nil (w : World) (B : Nat) : LstN w B (.slice none 0 0) [] := World.ownsRow_nil w B 3 1
theorem LstN.new (w : World) (hB : B ≤ w.heap.size) : LstN (w.alloc (.cells #[] 3)) B (.slice (some ⟨w.heap.size, 0, none⟩) 0 0) [] :=
  World.ownsRow_made w #[] 0 hB (Nat.zero_le _) rfl
theorem LstN.new' (w : World) (hB : B ≤ w.heap.size) {g : Nat} (hg : w.heap.size = g) : LstN (w.alloc (.cells #[] 3)) B (.slice (some ⟨g, 0, none⟩) 0 0) [] := by subst hg; exact LstN.new w hB
theorem LstN.alloc (h : LstN w B v xs) (o : Obj) : LstN (w.alloc o) B v xs := World.ownsRow.alloc h o
theorem LstN.drewN (h : LstN w B v xs) (k : Nat) : LstN (w.drewN k) B v xs := h
theorem LstN.blk (h : LstN w B v xs) : ∀ k, v.ownBlock = some k → B ≤ k ∧ k < w.heap.size := World.ownsRow.lt h
theorem LstN.kept (h : LstN w B v xs) {row : Option Nat} (hg : w.grownBy w' row) (hne : v.ownBlock = none ∨ v.ownBlock ≠ row) : LstN w' B v xs := World.ownsRow.kept h hg hne
end

theorem info_int : (Try.prog.info? 3).map (fun i => (i.zero, i.size, i.bytes)) = some (some (.int .i64 0), 1, 8) := by kernel_rfl
theorem LstN.form {w : World} {B n : Nat} {v : Value} {xs : List Int} (h : LstN w B v xs) (hn : xs.length = n) : ∃ A c, v = .slice A n c ∧ w.ownsRow B 3 1 (.slice A n c) n (ivs xs) := by
  subst hn
  rcases h.2 with ⟨h1, h2⟩ | ⟨g, cap, cur, h1, h2⟩
  · subst h1
    rw [h2]
    exact ⟨none, 0, rfl, by have h' := h; unfold LstN at h'; rw [h2] at h'; exact h'⟩
  · subst h1
    exact ⟨_, _, rfl, h⟩
theorem LstN.below {w w' : World} {B B' : Nat} {v : Value} {xs : List Int} (h : LstN w B v xs) (hb : Below B' w w') (hB : w.heap.size ≤ B') : LstN w' B v xs := by
  refine World.ownsRow.kept (row := none) h ⟨hb.os, hb.tape, hb.output, hb.size, fun k hk _ => hb.block k (by omega)⟩ ?_
  cases v.ownBlock <;> simp
section
variable {w : World}
theorem run_appN (t : TypeId) (B : Nat) (v : Value) (xs ys : List Int) (hown : LstN w B v xs) (A : Option Addr) (m c : Nat) (hR : Rd w w.heap.size A m ys) (hnone : A = none → c = 0) (hlen : xs.length + m ≤ 1000000000000) (hB : B ≤ w.heap.size) :
    ∃ v' w', (Builtin.append_ #[80, 80] t #[v, .slice A m c]).run Try.prog w = .ok v' w' ∧ LstN w' B v' (xs ++ ys) ∧ w.grownBy w' v.ownBlock ∧ (v'.ownBlock = v.ownBlock ∨ v'.ownBlock = some w.heap.size) := by
  obtain ⟨i0, hi, hz0, hz1, hz2⟩ := info_parts info_int
  cases A with
  | none =>
    have hm : m = 0 := by
      rcases Nat.eq_zero_or_pos m with h0 | h0
      · exact h0
      · obtain ⟨b, o', hA, _⟩ := hR.2 h0
        cases hA
    subst hm
    have hc := hnone rfl
    subst hc
    have hy : ys = [] := List.eq_nil_of_length_eq_zero hR.len
    subst hy
    exact ⟨v, w, run_append_owned_none (P := Try.prog) w B 80 t 3 i0 1 Try.underlying80 hi v xs.length (ivs xs) hown, by rw [List.append_nil]; exact hown, World.grownBy.refl w _, .inl rfl⟩
  | some ad =>
    obtain ⟨v', w', hr, h2, h3, _, h5⟩ := run_append_own_at (P := Try.prog) w B 80 t 3 i0 (.int .i64 0) 1 8 Try.underlying80 hi hz0 hz1 hz2 rfl (by omega) v xs.length (ivs xs) hown ad m c (ivs ys)
      (by rw [ivs_len, hR.len]; omega) (by
        intro j u hj
        have hjm : j < m := by
          have := (List.getElem?_eq_some_iff.1 hj).1
          rw [ivs_len, hR.len] at this
          exact this
        obtain ⟨b, off, hA, _, hc⟩ := hR.at_ hjm
        obtain rfl : ad = ⟨b, off, none⟩ := Option.some.inj hA
        rw [Go.WideShapes.add_plain, hc]
        rw [ivs_at _ _ (by rw [hR.len]; exact hjm)] at hj
        exact hj) (ivs_one ys) (by unfold maxLen; omega) (by omega) hB
    refine ⟨v', w', hr, ?_, h3, h5⟩
    unfold LstN
    rw [List.length_append, hR.len, ← ivs_app]
    exact h2

theorem wp_appN {o : Oper} {a : Act} {K : Act → World → Prop} {Q : Exit → Act → World → Prop} (s x : Operand)
    (ho : o.op = .call { callee := .builtin .append, args := #[s, x], argTypes := #[80, 80] }) (B : Nat) (v : Value) (xs ys : List Int) (hs : a.eval s = v) (hown : LstN w B v xs)
    (A : Option Addr) (m c : Nat) (hx : a.eval x = .slice A m c) (hR : Rd w w.heap.size A m ys) (hnone : A = none → c = 0) (hlen : xs.length + m ≤ 1000000000000) (hB : B ≤ w.heap.size)
    (h : ∀ v' w', LstN w' B v' (xs ++ ys) → w.grownBy w' v.ownBlock → (v'.ownBlock = v.ownBlock ∨ v'.ownBlock = some w.heap.size) → K (a.put o.dst v') w') : o.wp Try.prog a w K Q := by
  obtain ⟨v', w', hr, h2, h3, h5⟩ := run_appN (w := w) o.type B v xs ys hown A m c hR hnone hlen hB
  unfold Oper.wp execOp
  simp only [ho, resolve, invoke, builtin, Sem.run_bind, Sem.run_pure, Result.andThen_ok, List.map_toArray, List.map_cons, List.map_nil, hs, hx, hr]
  exact h v' w' h2 h3 h5

theorem wpList_appN {ops : Array Oper} {rest : List Oper} {o : Oper} {a : Act} {Q : Exit → Act → World → Prop} (hgd : o.guard = none) (s x : Operand)
    (ho : o.op = .call { callee := .builtin .append, args := #[s, x], argTypes := #[80, 80] }) (B : Nat) (v : Value) (xs ys : List Int) (hs : a.eval s = v) (hown : LstN w B v xs)
    (A : Option Addr) (m c : Nat) (hx : a.eval x = .slice A m c) (hR : Rd w w.heap.size A m ys) (hnone : A = none → c = 0) (hlen : xs.length + m ≤ 1000000000000) (hB : B ≤ w.heap.size)
    (h : ∀ v' w', LstN w' B v' (xs ++ ys) → w.grownBy w' v.ownBlock → (v'.ownBlock = v.ownBlock ∨ v'.ownBlock = some w.heap.size) → wpList Try.prog ops Q rest (a.put o.dst v') w') :
    wpList Try.prog ops Q (o :: rest) a w :=
  wpList_plain hgd fun _ hK => wp_appN s x ho B v xs ys hs hown A m c hx hR hnone hlen hB fun v' w' h2 h3 h4 => hK _ _ (h v' w' h2 h3 h4)

theorem step_appN {ops : Array Oper} {o : Oper} {a : Act} {K : Act → World → Prop} {Q : Exit → Act → World → Prop} {E : Prop} (hgd : o.guard = none) (s x : Operand)
    (ho : o.op = .call { callee := .builtin .append, args := #[s, x], argTypes := #[80, 80] }) (B : Nat) (v : Value) (xs ys : List Int) (hs : a.eval s = v) (hown : LstN w B v xs)
    (A : Option Addr) (m c : Nat) (hx : a.eval x = .slice A m c) (hR : Rd w w.heap.size A m ys) (hnone : A = none → c = 0) (hlen : xs.length + m ≤ 1000000000000) (hB : B ≤ w.heap.size)
    (h : ∀ v' w', LstN w' B v' (xs ++ ys) → w.grownBy w' v.ownBlock → (v'.ownBlock = v.ownBlock ∨ v'.ownBlock = some w.heap.size) → K (a.put o.dst v') w') :
    if Region.wanted o (yielded ops a.tmps) = true then Oper.wp Try.prog o a w K Q else E := by
  have hw : Region.wanted o (yielded ops a.tmps) = true := by simp [Region.wanted, hgd]
  rw [if_pos hw]
  exact wp_appN s x ho B v xs ys hs hown A m c hx hR hnone hlen hB h
end

end Go.Proofs.Ytlfffkjgepgcfaa.mem
