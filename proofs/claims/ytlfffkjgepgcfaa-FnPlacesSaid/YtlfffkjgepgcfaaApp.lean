/-
  A list that a function makes by appending. Conditions: those of each theorem.
-/
import Derived.Test.YtlfffkjgepgcfaaMem2
import Derived.WalkSpells
import Derived.WalkLawsBesides
import Derived.RegionTactic
import Derived.BigRegion
namespace Go.Proofs.Ytlfffkjgepgcfaa.mem
open Go.RowKit
open base

/-- the value v is a list of the call's own, from block B on, and holds xs -/
def Lst (w : World) (B : Nat) (v : Value) (xs : List Int) : Prop := w.ownsRow B 2 1 v xs.length (ivs xs)
section
variable {w w' : World} {B B' : Nat} {v : Value} {xs : List Int}
theorem Lst.form (h : Lst w B v xs) : ∃ A c, v = .slice A xs.length c ∧ Own w B A xs.length c xs := own_of_row h
theorem Lst.of {A : Option Addr} {n c : Nat} (h : Own w B A n c xs) : Lst w B (.slice A n c) xs := by
  unfold Lst
  rw [h.len]
  exact h
theorem Lst.nil (w : World) (B : Nat) : Lst w B (.slice none 0 0) [] := World.ownsRow_nil w B 2 1
theorem Lst.new (w : World) (hB : B ≤ w.heap.size) : Lst (w.alloc (.cells #[] 2)) B (.slice (some ⟨w.heap.size, 0, none⟩) 0 0) [] :=
  World.ownsRow_made w #[] 0 hB (Nat.zero_le _) rfl
theorem Lst.new' (w : World) (hB : B ≤ w.heap.size) {g : Nat} (hg : w.heap.size = g) : Lst (w.alloc (.cells #[] 2)) B (.slice (some ⟨g, 0, none⟩) 0 0) [] := by subst hg; exact Lst.new w hB
theorem Lst.made (w : World) (hB : B ≤ w.heap.size) (xs : List Int) (n : Nat) (hn : xs.length = n) (hm : n ≤ 1000000) (cs : Array Value) (hc : cs = (ivs xs).toArray) : Lst (w.alloc (.cells cs 2)) B (.slice (some ⟨w.heap.size, 0, none⟩) n n) xs := by
  subst hn hc
  exact ⟨by simp [ivs], .inr ⟨w.heap.size, xs.length, _, rfl, hB, heap_alloc_new w _, Nat.le_refl _, by unfold maxLen; omega, by simp [ivs], by rw [List.take_of_length_le (by simp [ivs])]⟩⟩
theorem Lst.one (w : World) (hB : B ≤ w.heap.size) (x : Int) : Lst (w.alloc (.cells #[.int .i64 x] 2)) B (.slice (some ⟨w.heap.size, 0, none⟩) 1 1) [x] :=
  Lst.made w hB [x] 1 rfl (by omega) _ rfl
theorem Lst.formn {n : Nat} (h : Lst w B v xs) (hl : xs.length = n) : ∃ A c, v = .slice A n c ∧ Own w B A n c xs := by subst hl; exact own_of_row h
theorem Lst.alloc (h : Lst w B v xs) (o : Obj) : Lst (w.alloc o) B v xs := World.ownsRow.alloc h o
theorem Lst.drewN (h : Lst w B v xs) (k : Nat) : Lst (w.drewN k) B v xs := h
theorem Lst.below (h : Lst w B v xs) (hb : Below w.heap.size w w') : Lst w' B v xs := by
  obtain ⟨A, c, rfl, ho⟩ := h.form
  exact Lst.of (ho.below hb (Nat.le_refl _))
theorem Lst.blk (h : Lst w B v xs) : ∀ k, v.ownBlock = some k → B ≤ k ∧ k < w.heap.size := World.ownsRow.lt h
theorem Lst.kept (h : Lst w B v xs) {row : Option Nat} (hg : w.grownBy w' row) (hne : v.ownBlock = none ∨ v.ownBlock ≠ row) : Lst w' B v xs := World.ownsRow.kept h hg hne
theorem grown_below {row : Option Nat} (hg : w.grownBy w' row) (hB : B ≤ w.heap.size) (hr : ∀ k, row = some k → B ≤ k) : Below B w w' := (Below.refl _ _).grown hg hB hr
theorem Lst.grown (h : Lst w B v xs) (hg : w.grownBy w' v.ownBlock) (hB : B ≤ w.heap.size) : Below B w w' := grown_below hg hB fun k hk => (h.blk k hk).1
end

section
variable {w : World}
theorem rd_one (w : World) (x : Int) (t : TypeId) : Rd (w.alloc (.cells #[.int .i64 x] t)) (w.alloc (.cells #[.int .i64 x] t)).heap.size (some ⟨w.heap.size, 0, none⟩) 1 [x] := by
  refine ⟨rfl, fun _ => ⟨w.heap.size, 0, rfl, by simp, fun k hk => ?_⟩⟩
  obtain rfl : k = 0 := by omega
  exact cell_one_new w (.int .i64 x) t 0 _ rfl
theorem rd_two (w : World) (x y : Int) (t : TypeId) : Rd (w.alloc (.cells #[.int .i64 x, .int .i64 y] t)) (w.alloc (.cells #[.int .i64 x, .int .i64 y] t)).heap.size (some ⟨w.heap.size, 0, none⟩) 2 [x, y] := by
  refine ⟨rfl, fun _ => ⟨w.heap.size, 0, rfl, by simp, fun k hk => ?_⟩⟩
  have hh := cell_of_row (w.alloc (.cells #[.int .i64 x, .int .i64 y] t)) w.heap.size k #[.int .i64 x, .int .i64 y] t (0, 0) (heap_alloc_new w _)
  rw [Nat.zero_add, hh]
  obtain rfl | rfl : k = 0 ∨ k = 1 := by omega
  · rfl
  · rfl

theorem run_app (t : TypeId) (B : Nat) (v : Value) (xs ys : List Int) (hown : Lst w B v xs) (A : Option Addr) (m c : Nat) (hR : Rd w w.heap.size A m ys) (hnone : A = none → c = 0) (hlen : xs.length + m ≤ 1000000000000) (hB : B ≤ w.heap.size) :
    ∃ v' w', (Builtin.append_ #[35, 35] t #[v, .slice A m c]).run Try.prog w = .ok v' w' ∧ Lst w' B v' (xs ++ ys) ∧ w.grownBy w' v.ownBlock ∧ (v'.ownBlock = v.ownBlock ∨ v'.ownBlock = some w.heap.size) := by
  obtain ⟨i0, hi, hz0, hz1, hz2⟩ := info_parts info_int64
  cases A with
  | none =>
    have hm : m = 0 := by
      rcases Nat.eq_zero_or_pos m with h0 | h0
      · exact h0
      · obtain ⟨b, o', hA, _⟩ := hR.2 h0
        cases hA
    subst hm
    have hc := hnone rfl
    subst hc
    have hy : ys = [] := List.eq_nil_of_length_eq_zero hR.len
    subst hy
    exact ⟨v, w, run_append_owned_none (P := Try.prog) w B 35 t 2 i0 1 Try.underlying35 hi v xs.length (ivs xs) hown, by rw [List.append_nil]; exact hown, World.grownBy.refl w _, .inl rfl⟩
  | some ad =>
    obtain ⟨v', w', hr, h2, h3, _, h5⟩ := run_append_own_at (P := Try.prog) w B 35 t 2 i0 (.int .i64 0) 1 8 Try.underlying35 hi hz0 hz1 hz2 rfl (by omega) v xs.length (ivs xs) hown ad m c (ivs ys)
      (by rw [ivs_len, hR.len]; omega) (by
        intro j u hj
        have hjm : j < m := by
          have := (List.getElem?_eq_some_iff.1 hj).1
          rw [ivs_len, hR.len] at this
          exact this
        obtain ⟨b, off, hA, _, hc⟩ := hR.at_ hjm
        obtain rfl : ad = ⟨b, off, none⟩ := Option.some.inj hA
        rw [Go.WideShapes.add_plain, hc]
        rw [ivs_at _ _ (by rw [hR.len]; exact hjm)] at hj
        exact hj) (ivs_one ys) (by unfold maxLen; omega) (by omega) hB
    refine ⟨v', w', hr, ?_, h3, h5⟩
    unfold Lst
    rw [List.length_append, hR.len, ← ivs_app]
    exact h2

theorem wp_app {o : Oper} {a : Act} {K : Act → World → Prop} {Q : Exit → Act → World → Prop} (s x : Operand)
    (ho : o.op = .call { callee := .builtin .append, args := #[s, x], argTypes := #[35, 35] }) (B : Nat) (v : Value) (xs ys : List Int) (hs : a.eval s = v) (hown : Lst w B v xs)
    (A : Option Addr) (m c : Nat) (hx : a.eval x = .slice A m c) (hR : Rd w w.heap.size A m ys) (hnone : A = none → c = 0) (hlen : xs.length + m ≤ 1000000000000) (hB : B ≤ w.heap.size)
    (h : ∀ v' w', Lst w' B v' (xs ++ ys) → w.grownBy w' v.ownBlock → (v'.ownBlock = v.ownBlock ∨ v'.ownBlock = some w.heap.size) → K (a.put o.dst v') w') : o.wp Try.prog a w K Q := by
  obtain ⟨v', w', hr, h2, h3, h5⟩ := run_app (w := w) o.type B v xs ys hown A m c hR hnone hlen hB
  unfold Oper.wp execOp
  simp only [ho, resolve, invoke, builtin, Sem.run_bind, Sem.run_pure, Result.andThen_ok, List.map_toArray, List.map_cons, List.map_nil, hs, hx, hr]
  exact h v' w' h2 h3 h5

theorem wpList_app {ops : Array Oper} {rest : List Oper} {o : Oper} {a : Act} {Q : Exit → Act → World → Prop} (hgd : o.guard = none) (s x : Operand)
    (ho : o.op = .call { callee := .builtin .append, args := #[s, x], argTypes := #[35, 35] }) (B : Nat) (v : Value) (xs ys : List Int) (hs : a.eval s = v) (hown : Lst w B v xs)
    (A : Option Addr) (m c : Nat) (hx : a.eval x = .slice A m c) (hR : Rd w w.heap.size A m ys) (hnone : A = none → c = 0) (hlen : xs.length + m ≤ 1000000000000) (hB : B ≤ w.heap.size)
    (h : ∀ v' w', Lst w' B v' (xs ++ ys) → w.grownBy w' v.ownBlock → (v'.ownBlock = v.ownBlock ∨ v'.ownBlock = some w.heap.size) → wpList Try.prog ops Q rest (a.put o.dst v') w') :
    wpList Try.prog ops Q (o :: rest) a w :=
  wpList_plain hgd fun _ hK => wp_app s x ho B v xs ys hs hown A m c hx hR hnone hlen hB fun v' w' h2 h3 h4 => hK _ _ (h v' w' h2 h3 h4)

theorem step_app {ops : Array Oper} {o : Oper} {a : Act} {K : Act → World → Prop} {Q : Exit → Act → World → Prop} {E : Prop} (hgd : o.guard = none) (s x : Operand)
    (ho : o.op = .call { callee := .builtin .append, args := #[s, x], argTypes := #[35, 35] }) (B : Nat) (v : Value) (xs ys : List Int) (hs : a.eval s = v) (hown : Lst w B v xs)
    (A : Option Addr) (m c : Nat) (hx : a.eval x = .slice A m c) (hR : Rd w w.heap.size A m ys) (hnone : A = none → c = 0) (hlen : xs.length + m ≤ 1000000000000) (hB : B ≤ w.heap.size)
    (h : ∀ v' w', Lst w' B v' (xs ++ ys) → w.grownBy w' v.ownBlock → (v'.ownBlock = v.ownBlock ∨ v'.ownBlock = some w.heap.size) → K (a.put o.dst v') w') :
    if Region.wanted o (yielded ops a.tmps) = true then Oper.wp Try.prog o a w K Q else E := by
  have hw : Region.wanted o (yielded ops a.tmps) = true := by simp [Region.wanted, hgd]
  rw [if_pos hw]
  exact wp_app s x ho B v xs ys hs hown A m c hx hR hnone hlen hB h
end
theorem Sep.symm {v u : Value} (h : Sep v u) : Sep u v := by
  rcases h with h | h
  · cases hu : u.ownBlock with
    | none => exact .inl hu
    | some k => exact .inr (by rw [hu, h]; simp)
  · exact .inr (Ne.symm h)
theorem Sep.app {v v4 u : Value} {H : Nat} (hs : Sep v u) (hb4 : v4.ownBlock = v.ownBlock ∨ v4.ownBlock = some H) (hu : ∀ k, u.ownBlock = some k → k < H) : Sep v4 u := by
  rcases hb4 with e | e
  · unfold Sep at hs ⊢; rw [e]; exact hs
  · refine .inr fun h => ?_
    have := hu H (by rw [← h, e])
    omega
theorem Sep.new {w : World} {B : Nat} {v : Value} {xs : List Int} (h : Lst w B v xs) : Sep (.slice (some ⟨w.heap.size, 0, none⟩) 0 0) v := by
  refine .inr fun e => ?_
  have h2 : w.heap.size < w.heap.size := (h.blk _ e.symm).2
  omega
end Go.Proofs.Ytlfffkjgepgcfaa.mem
