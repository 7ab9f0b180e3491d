/-
  Lists of lists that a function makes by appending; the library's Clone of such a list. Conditions: those of each theorem.
-/
import Derived.Test.YtlldocdmjeeaaaaGrid
import Derived.Test.YtlldocdmjeeaaaaMem2
namespace Go.Proofs.Ytlldocdmjeeaaaa.grid
open Go.RowKit
open base mem

theorem vals_one (ts : List Sl) : ∀ u ∈ vals ts, u.oneCell' = true := by
  intro u hu
  simp only [vals, List.mem_map] at hu
  obtain ⟨t, _, rfl⟩ := hu
  rfl
theorem vals_app (ts us : List Sl) : vals ts ++ vals us = vals (ts ++ us) := by simp [vals]
theorem con_app (ts us : List Sl) : con (ts ++ us) = con ts ++ con us := by simp [con]
/-- the value v is a list of the call's own, from block B on, whose cells are the lists ts -/
def LstS (w : World) (B : Nat) (v : Value) (ts : List Sl) : Prop := w.ownsRow B 22 1 v ts.length (vals ts)
section
variable {w w' : World} {B B' : Nat} {v : Value} {ts us : List Sl}
theorem LstS.form {n : Nat} (h : LstS w B v ts) (hn : ts.length = n) : ∃ A c, v = .slice A n c ∧ w.ownsRow B 22 1 (.slice A n c) n (vals ts) := by
  subst hn
  rcases h.2 with ⟨h1, h2⟩ | ⟨g, cap, cur, h1, h2⟩
  · subst h1
    rw [h2]
    exact ⟨none, 0, rfl, by have h' := h; unfold LstS at h'; rw [h2] at h'; exact h'⟩
  · subst h1
    exact ⟨_, _, rfl, h⟩
theorem LstS.new (w : World) : LstS (w.alloc (.cells #[] 22)) w.heap.size (.slice (some ⟨w.heap.size, 0, none⟩) 0 0) [] :=
  World.ownsRow_made w #[] 0 (Nat.le_refl _) (Nat.zero_le _) rfl
theorem LstS.blk (h : LstS w B v ts) : ∀ k, v.ownBlock = some k → B ≤ k ∧ k < w.heap.size := World.ownsRow.lt h
theorem LstS.rd {A : Option Addr} {n c : Nat} (h : w.ownsRow B 22 1 (.slice A n c) n (vals ts)) (hok : ∀ t ∈ ts, t.ok w w.heap.size) : RdS w w.heap.size A n ts := by
  have hl : ts.length = n := by have := h.1; simpa [vals] using this
  refine ⟨hl, hok, fun hn => ?_⟩
  rcases h.2 with ⟨_, h0⟩ | ⟨g, cap, cur, hv, hb, hg, _⟩
  · omega
  · injection hv with e1
    refine ⟨g, 0, e1, (Array.getElem?_eq_some_iff.1 hg).1, fun i t ht => ?_⟩
    have hi : i < n := by rw [← hl]; exact (List.getElem?_eq_some_iff.1 ht).1
    subst e1
    have := World.ownsRow.cellAt (h := h) i (by omega)
    rw [Nat.zero_add, this, vals_at ht]
theorem run_appS (t : TypeId) (B : Nat) (v : Value) (ts us : List Sl) (hown : LstS w B v ts) (A : Option Addr) (m c : Nat) (hR : RdS w w.heap.size A m us) (hnone : A = none → c = 0) (hlen : ts.length + m ≤ 1000000000) (hB : B ≤ w.heap.size) :
    ∃ v' w', (Builtin.append_ #[32, 32] t #[v, .slice A m c]).run Try.prog w = .ok v' w' ∧ LstS w' B v' (ts ++ us) ∧ w.grownBy w' v.ownBlock ∧ (v'.ownBlock = v.ownBlock ∨ v'.ownBlock = some w.heap.size) := by
  obtain ⟨i0, hi, hz0, hz1, hz2⟩ := info_parts info_row
  cases A with
  | none =>
    have hm : m = 0 := by
      rcases Nat.eq_zero_or_pos m with h0 | h0
      · exact h0
      · obtain ⟨b, o', _, hA, _⟩ := hR.at_ h0
        cases hA
    subst hm
    have hc := hnone rfl
    subst hc
    have hy : us = [] := List.eq_nil_of_length_eq_zero hR.len
    subst hy
    exact ⟨v, w, run_append_owned_none (P := Try.prog) w B 32 t 22 i0 1 Try.underlying32 hi v ts.length (vals ts) hown, by rw [List.append_nil]; exact hown, World.grownBy.refl w _, .inl rfl⟩
  | some ad =>
    obtain ⟨v', w', hr, h2, h3, _, h5⟩ := run_append_own_at (P := Try.prog) w B 32 t 22 i0 (.slice none 0 0) 1 24 Try.underlying32 hi hz0 hz1 hz2 rfl (by omega) v ts.length (vals ts) hown ad m c (vals us)
      (by rw [vals_len, hR.len]; omega) (by
        intro j u hj
        have hjm : j < m := by
          have := (List.getElem?_eq_some_iff.1 hj).1
          rw [vals_len, hR.len] at this
          exact this
        obtain ⟨b, off, t, hA, _, ht, hc, _⟩ := hR.at_ hjm
        obtain rfl : ad = ⟨b, off, none⟩ := Option.some.inj hA
        rw [Go.WideShapes.add_plain, hc]
        rw [vals_at ht] at hj
        exact hj) (vals_one us) (by unfold maxLen; omega) (by omega) hB
    refine ⟨v', w', hr, ?_, h3, h5⟩
    unfold LstS
    rw [List.length_append, hR.len, ← vals_app]
    exact h2
theorem wpList_appS {ops : Array Oper} {rest : List Oper} {o : Oper} {a : Act} {Q : Exit → Act → World → Prop} (hgd : o.guard = none) (s x : Operand)
    (ho : o.op = .call { callee := .builtin .append, args := #[s, x], argTypes := #[32, 32] }) (B : Nat) (v : Value) (ts us : List Sl) (hs : a.eval s = v) (hown : LstS w B v ts)
    (A : Option Addr) (m c : Nat) (hx : a.eval x = .slice A m c) (hR : RdS w w.heap.size A m us) (hnone : A = none → c = 0) (hlen : ts.length + m ≤ 1000000000) (hB : B ≤ w.heap.size)
    (h : ∀ v' w', LstS w' B v' (ts ++ us) → w.grownBy w' v.ownBlock → (v'.ownBlock = v.ownBlock ∨ v'.ownBlock = some w.heap.size) → wpList Try.prog ops Q rest (a.put o.dst v') w') :
    wpList Try.prog ops Q (o :: rest) a w := by
  refine wpList_plain hgd fun K hK => ?_
  obtain ⟨v', w', hr, h2, h3, h5⟩ := run_appS (w := w) o.type B v ts us hown A m c hR hnone hlen hB
  unfold Oper.wp execOp
  simp only [ho, resolve, invoke, builtin, Sem.run_bind, Sem.run_pure, Result.andThen_ok, List.map_toArray, List.map_cons, List.map_nil, hs, hx, hr]
  exact hK _ _ (h v' w' h2 h3 h5)
end
theorem RdS.allocS {w : World} {A : Option Addr} {m : Nat} {ts : List Sl} (h : RdS w w.heap.size A m ts) (o : Obj) : RdS (w.alloc o) (w.alloc o).heap.size A m ts :=
  (h.keep fun p hp => World.cell?_alloc_lt w o p (by omega)).more (by simp)
set_option maxHeartbeats 1000000 in
theorem CloneS_any (A : Option Addr) (n c : Nat) (ts : List Sl) (w : World) (hR : RdS w w.heap.size A n ts) (hn : n ≤ 1048576) (hpos : 0 < n) :
    Calls Try.prog 77 #[.slice A n c] w fun e w' => ∃ A' c', e = .returned (.slice A' n c') ∧ w'.ownsRow w.heap.size 22 1 (.slice A' n c') n (vals ts) ∧ Below w.heap.size w w' := by
  have hnil := fun (w : World) (a : Option Addr) (l c : Nat) => Lib.run_eql_slice_nil (P := Try.prog) w 32 22 a l c 0 0 Try.underlying32
  have HL := hide hR.len
  obtain ⟨b, o, t, rfl, _⟩ := hR.at_ hpos
  go_enter Try.func77, Try.ntmps77
  go_wp2_with (at_builtin; refine wpList_appS rfl (.tmp 5) (.tmp 6) rfl w.heap.size _ [] ts rfl (LstS.new w) (some ⟨b, o, none⟩) n c rfl (hR.allocS _) (fun h => by cases h) (by simp; omega) (by simp) ?_; intro v2 w2 ho2 hg2 _)
  have hb2 : Below w.heap.size w w2 := ((Below.refl _ _).alloc (Nat.le_refl _) _).grown hg2 (by simp) (fun k hk => ((LstS.new w).blk k hk).1)
  obtain ⟨A', c', rfl, ho⟩ := ho2.form (n := n) (by simp [HL.out])
  clear hg2 ho2 hnil
  rw [List.nil_append] at ho
  go_wp2
  go_ret
  exact ⟨A', c', rfl, ho, hb2⟩

end Go.Proofs.Ytlldocdmjeeaaaa.grid
