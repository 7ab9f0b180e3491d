/-
  A list of truth values that a function makes by appending. Conditions: those of each theorem.
-/
import Derived.Test.YtlfffkjgepgcfaaLawB
import Derived.Test.YtlfffkjgepgcfaaApp
namespace Go.Proofs.Ytlfffkjgepgcfaa.mem
open Go.RowKit
open base

/-- the value v is a list of the call's own, from block B on, and holds xs -/
def LstB (w : World) (B : Nat) (v : Value) (xs : List Bool) : Prop := w.ownsRow B 4 1 v xs.length (bvs xs)
section
variable {w w' : World} {B B' : Nat} {v : Value} {xs : List Bool}
theorem LstB.form (h : LstB w B v xs) : ∃ A c, v = .slice A xs.length c ∧ OwnB w B A xs.length c xs := ownB_of_row h
theorem LstB.of {A : Option Addr} {n c : Nat} (h : OwnB w B A n c xs) : LstB w B (.slice A n c) xs := by
  unfold LstB
  rw [h.len]
  exact h
theorem LstB.nil (w : World) (B : Nat) : LstB w B (.slice none 0 0) [] := World.ownsRow_nil w B 4 1
theorem LstB.new (w : World) (hB : B ≤ w.heap.size) : LstB (w.alloc (.cells #[] 4)) B (.slice (some ⟨w.heap.size, 0, none⟩) 0 0) [] :=
  World.ownsRow_made w #[] 0 hB (Nat.zero_le _) rfl
theorem LstB.new' (w : World) (hB : B ≤ w.heap.size) {g : Nat} (hg : w.heap.size = g) : LstB (w.alloc (.cells #[] 4)) B (.slice (some ⟨g, 0, none⟩) 0 0) [] := by subst hg; exact LstB.new w hB
theorem LstB.made (w : World) (hB : B ≤ w.heap.size) (xs : List Bool) (n : Nat) (hn : xs.length = n) (hm : n ≤ 1000000) (cs : Array Value) (hc : cs = (bvs xs).toArray) : LstB (w.alloc (.cells cs 4)) B (.slice (some ⟨w.heap.size, 0, none⟩) n n) xs := by
  subst hn hc
  exact ⟨by simp [bvs], .inr ⟨w.heap.size, xs.length, _, rfl, hB, heap_alloc_new w _, Nat.le_refl _, by unfold maxLen; omega, by simp [bvs], by rw [List.take_of_length_le (by simp [bvs])]⟩⟩
theorem LstB.one (w : World) (hB : B ≤ w.heap.size) (x : Bool) : LstB (w.alloc (.cells #[.bool x] 4)) B (.slice (some ⟨w.heap.size, 0, none⟩) 1 1) [x] :=
  LstB.made w hB [x] 1 rfl (by omega) _ rfl
theorem LstB.formn {n : Nat} (h : LstB w B v xs) (hl : xs.length = n) : ∃ A c, v = .slice A n c ∧ OwnB w B A n c xs := by subst hl; exact ownB_of_row h
theorem LstB.alloc (h : LstB w B v xs) (o : Obj) : LstB (w.alloc o) B v xs := World.ownsRow.alloc h o
theorem LstB.drewN (h : LstB w B v xs) (k : Nat) : LstB (w.drewN k) B v xs := h
theorem LstB.below (h : LstB w B v xs) (hb : Below w.heap.size w w') : LstB w' B v xs := by
  obtain ⟨A, c, rfl, ho⟩ := h.form
  exact LstB.of (ho.below hb (Nat.le_refl _))
theorem LstB.blk (h : LstB w B v xs) : ∀ k, v.ownBlock = some k → B ≤ k ∧ k < w.heap.size := World.ownsRow.lt h
theorem LstB.kept (h : LstB w B v xs) {row : Option Nat} (hg : w.grownBy w' row) (hne : v.ownBlock = none ∨ v.ownBlock ≠ row) : LstB w' B v xs := World.ownsRow.kept h hg hne
theorem LstB.grown (h : LstB w B v xs) (hg : w.grownBy w' v.ownBlock) (hB : B ≤ w.heap.size) : Below B w w' := grown_below hg hB fun k hk => (h.blk k hk).1
end


section
variable {w : World}
theorem rdB_one (w : World) (x : Bool) (t : TypeId) : RdB (w.alloc (.cells #[.bool x] t)) (w.alloc (.cells #[.bool x] t)).heap.size (some ⟨w.heap.size, 0, none⟩) 1 [x] := by
  refine ⟨rfl, fun _ => ⟨w.heap.size, 0, rfl, by simp, fun k hk => ?_⟩⟩
  obtain rfl : k = 0 := by omega
  exact cell_one_new w (.bool x) t 0 _ rfl
theorem run_appB (t : TypeId) (B : Nat) (v : Value) (xs ys : List Bool) (hown : LstB w B v xs) (A : Option Addr) (m c : Nat) (hR : RdB w w.heap.size A m ys) (hnone : A = none → c = 0) (hlen : xs.length + m ≤ 1000000000000) (hB : B ≤ w.heap.size) :
    ∃ v' w', (Builtin.append_ #[49, 49] t #[v, .slice A m c]).run Try.prog w = .ok v' w' ∧ LstB w' B v' (xs ++ ys) ∧ w.grownBy w' v.ownBlock ∧ (v'.ownBlock = v.ownBlock ∨ v'.ownBlock = some w.heap.size) := by
  obtain ⟨i0, hi, hz0, hz1, hz2⟩ := info_parts info_bool0
  cases A with
  | none =>
    have hm : m = 0 := by
      rcases Nat.eq_zero_or_pos m with h0 | h0
      · exact h0
      · obtain ⟨b, o', hA, _⟩ := hR.2 h0
        cases hA
    subst hm
    have hc := hnone rfl
    subst hc
    have hy : ys = [] := List.eq_nil_of_length_eq_zero hR.len
    subst hy
    exact ⟨v, w, run_append_owned_none (P := Try.prog) w B 49 t 4 i0 1 Try.underlying49 hi v xs.length (bvs xs) hown, by rw [List.append_nil]; exact hown, World.grownBy.refl w _, .inl rfl⟩
  | some ad =>
    obtain ⟨v', w', hr, h2, h3, _, h5⟩ := run_append_own_at (P := Try.prog) w B 49 t 4 i0 (.bool false) 1 1 Try.underlying49 hi hz0 hz1 hz2 rfl (by omega) v xs.length (bvs xs) hown ad m c (bvs ys)
      (by rw [bvs_len, hR.len]; omega) (by
        intro j u hj
        have hjm : j < m := by
          have := (List.getElem?_eq_some_iff.1 hj).1
          rw [bvs_len, hR.len] at this
          exact this
        obtain ⟨b, off, hA, _, hc⟩ := hR.at_ hjm
        obtain rfl : ad = ⟨b, off, none⟩ := Option.some.inj hA
        rw [Go.WideShapes.add_plain, hc]
        rw [bvs_at _ _ (by rw [hR.len]; exact hjm)] at hj
        exact hj) (bvs_one ys) (by unfold maxLen; omega) (by omega) hB
    refine ⟨v', w', hr, ?_, h3, h5⟩
    unfold LstB
    rw [List.length_append, hR.len, ← bvs_app]
    exact h2

theorem wp_appB {o : Oper} {a : Act} {K : Act → World → Prop} {Q : Exit → Act → World → Prop} (s x : Operand)
    (ho : o.op = .call { callee := .builtin .append, args := #[s, x], argTypes := #[49, 49] }) (B : Nat) (v : Value) (xs ys : List Bool) (hs : a.eval s = v) (hown : LstB w B v xs)
    (A : Option Addr) (m c : Nat) (hx : a.eval x = .slice A m c) (hR : RdB w w.heap.size A m ys) (hnone : A = none → c = 0) (hlen : xs.length + m ≤ 1000000000000) (hB : B ≤ w.heap.size)
    (h : ∀ v' w', LstB w' B v' (xs ++ ys) → w.grownBy w' v.ownBlock → (v'.ownBlock = v.ownBlock ∨ v'.ownBlock = some w.heap.size) → K (a.put o.dst v') w') : o.wp Try.prog a w K Q := by
  obtain ⟨v', w', hr, h2, h3, h5⟩ := run_appB (w := w) o.type B v xs ys hown A m c hR hnone hlen hB
  unfold Oper.wp execOp
  simp only [ho, resolve, invoke, builtin, Sem.run_bind, Sem.run_pure, Result.andThen_ok, List.map_toArray, List.map_cons, List.map_nil, hs, hx, hr]
  exact h v' w' h2 h3 h5

theorem wpList_appB {ops : Array Oper} {rest : List Oper} {o : Oper} {a : Act} {Q : Exit → Act → World → Prop} (hgd : o.guard = none) (s x : Operand)
    (ho : o.op = .call { callee := .builtin .append, args := #[s, x], argTypes := #[49, 49] }) (B : Nat) (v : Value) (xs ys : List Bool) (hs : a.eval s = v) (hown : LstB w B v xs)
    (A : Option Addr) (m c : Nat) (hx : a.eval x = .slice A m c) (hR : RdB w w.heap.size A m ys) (hnone : A = none → c = 0) (hlen : xs.length + m ≤ 1000000000000) (hB : B ≤ w.heap.size)
    (h : ∀ v' w', LstB w' B v' (xs ++ ys) → w.grownBy w' v.ownBlock → (v'.ownBlock = v.ownBlock ∨ v'.ownBlock = some w.heap.size) → wpList Try.prog ops Q rest (a.put o.dst v') w') :
    wpList Try.prog ops Q (o :: rest) a w :=
  wpList_plain hgd fun _ hK => wp_appB s x ho B v xs ys hs hown A m c hx hR hnone hlen hB fun v' w' h2 h3 h4 => hK _ _ (h v' w' h2 h3 h4)

theorem step_appB {ops : Array Oper} {o : Oper} {a : Act} {K : Act → World → Prop} {Q : Exit → Act → World → Prop} {E : Prop} (hgd : o.guard = none) (s x : Operand)
    (ho : o.op = .call { callee := .builtin .append, args := #[s, x], argTypes := #[49, 49] }) (B : Nat) (v : Value) (xs ys : List Bool) (hs : a.eval s = v) (hown : LstB w B v xs)
    (A : Option Addr) (m c : Nat) (hx : a.eval x = .slice A m c) (hR : RdB w w.heap.size A m ys) (hnone : A = none → c = 0) (hlen : xs.length + m ≤ 1000000000000) (hB : B ≤ w.heap.size)
    (h : ∀ v' w', LstB w' B v' (xs ++ ys) → w.grownBy w' v.ownBlock → (v'.ownBlock = v.ownBlock ∨ v'.ownBlock = some w.heap.size) → K (a.put o.dst v') w') :
    if Region.wanted o (yielded ops a.tmps) = true then Oper.wp Try.prog o a w K Q else E := by
  have hw : Region.wanted o (yielded ops a.tmps) = true := by simp [Region.wanted, hgd]
  rw [if_pos hw]
  exact wp_appB s x ho B v xs ys hs hown A m c hx hR hnone hlen hB h
end
end Go.Proofs.Ytlfffkjgepgcfaa.mem
