/-
  Numbers from bytes, and lists of truth values made by appending. Conditions: those of each theorem.
-/
import Derived.Test.YtlfffkjgepgcfaaApp
import Derived.Test.YtlfffkjgepgcfaaMemB
namespace Go.Proofs.Ytlfffkjgepgcfaa.byts
open Go.RowKit
open base mem

theorem byte_wf {z : Int} (h : (Lit.int .u8 z).wf = true) : 0 ≤ z ∧ z < 256 := by
  have h2 : (IntKind.u8.min ≤ z) ∧ z ≤ IntKind.u8.max := by simpa [Lit.wf] using h
  have e1 : IntKind.u8.min = 0 := by decide
  have e2 : IntKind.u8.max = 255 := by decide
  omega
/-- '.slice A n c' reads as the bytes zs, from blocks below B -/
def RdY (w : World) (B : Nat) (A : Option Addr) (n : Nat) (zs : List Int) : Prop :=
  zs.length = n ∧ (0 < n → ∃ b o, A = some ⟨b, o, none⟩ ∧ b < B ∧ ∀ k, k < n → w.cell? ⟨b, o + k, none⟩ = some (.int .u8 (zs.getD k 0))) ∧ ∀ k, k < n → 0 ≤ zs.getD k 0 ∧ zs.getD k 0 < 256
section
variable {w w' : World} {B B' : Nat} {A : Option Addr} {n : Nat} {zs : List Int}
theorem RdY.at_ (h : RdY w B A n zs) {k : Nat} (hk : k < n) : ∃ (b o x : Nat), A = some ⟨b, o, none⟩ ∧ b < B ∧ w.cell? ⟨b, o + k, none⟩ = some (.int .u8 (x : Int)) ∧ x < 256 := by
  obtain ⟨b, o, e, hb, hc⟩ := h.2.1 (by omega)
  have hr := h.2.2 k hk
  obtain ⟨x, hx⟩ := Int.eq_ofNat_of_zero_le hr.1
  exact ⟨b, o, x, e, hb, by rw [hc k hk, hx], by omega⟩
theorem RdY.keep (h : RdY w B A n zs) (hk : ∀ p : Addr, p.block < B → w'.cell? p = w.cell? p) : RdY w' B A n zs :=
  ⟨h.1, fun hn => by
    obtain ⟨b, o, e, hb, hc⟩ := h.2.1 hn
    exact ⟨b, o, e, hb, fun k hk' => (hk _ hb).trans (hc k hk')⟩, h.2.2⟩
theorem RdY.below (h : RdY w B A n zs) (hb : Below B w w') : RdY w' B A n zs := h.keep fun _ hp => hb.cell hp
theorem RdY.drewN (h : RdY w B A n zs) (q : Nat) : RdY (w.drewN q) B A n zs := h
end
theorem rdY_of_row {w : World} {a : Option Addr} {len cap : Nat} {zs : List Int}
    (h : (a = none ∧ len = 0 ∧ cap = 0 ∧ zs = []) ∨ ∃ x, a = some x ∧ len ≤ cap ∧ cap ≤ maxLen ∧ zs.length = cap ∧ (∀ i, i < zs.length → w.cell? (x.add i) = some (.int .u8 (zs.getD i 0))) ∧ ∀ n ∈ zs, (Lit.int .u8 n).wf = true) :
    RdY w w.heap.size a len (zs.take len) ∧ len ≤ cap ∧ len ≤ 9223372036854775807 := by
  rcases h with ⟨rfl, rfl, rfl, rfl⟩ | ⟨x, rfl, hl, hm, hz, hc, hw⟩
  · exact ⟨⟨rfl, fun h => absurd h (by omega), fun k hk => absurd hk (by omega)⟩, Nat.le_refl _, by omega⟩
  · have hr : ∀ k, k < len → 0 ≤ (zs.take len).getD k 0 ∧ (zs.take len).getD k 0 < 256 := by
      intro k hk
      have hkz : k < zs.length := by omega
      have e : (zs.take len).getD k 0 = zs[k] := by simp [List.getD, hk, hkz]
      have := hw zs[k] (List.getElem_mem hkz)
      rw [e]
      exact byte_wf this
    refine ⟨⟨by rw [List.length_take]; omega, fun h0 => ?_, hr⟩, hl, by unfold maxLen at hm; omega⟩
    obtain ⟨b, off, rfl, hcell⟩ := ints_at hc (by omega)
    refine ⟨b, off, rfl, ?_, fun k hk => ?_⟩
    · rcases Nat.lt_or_ge b w.heap.size with hlt | hge
      · exact hlt
      · have h1 := hcell 0 (by omega)
        simp [World.cell?, Array.getElem?_eq_none hge] at h1
    · rw [hcell k (by omega)]
      simp [List.getD, hk]
theorem mod_nat (r p : Nat) : ((r : Int)) % ((p : Nat) : Int) = ((r % p : Nat) : Int) := by omega
theorem b10Long_any (A A2 : Option Addr) (n c n2 c2 : Nat) (w : World) (hn : n ≤ 1048576) (hn2 : n2 ≤ 1048576) :
    Calls Try.prog 43 #[.slice A n c, .slice A2 n2 c2] w fun e w' => e = .returned (.bool false) ∧ w = w' := by
  have d1 : decide ((1048576 : Int) < (n : Int)) = false := decide_eq_false (by omega)
  have d2 : decide ((1048576 : Int) < (n2 : Int)) = false := decide_eq_false (by omega)
  go_enter Try.func43, Try.ntmps43
  go_wp2
  go_ret
  exact ⟨by simp, rfl⟩
theorem b10At_any (A : Option Addr) (n c : Nat) (zs : List Int) (B : Nat) (i m : Nat) (w : World) (hY : RdY w B A n zs) (_hn : n ≤ 1048576) (hi : i ≤ 1000) (hm : m ≤ 1000) (hm1 : 2 ≤ m) :
    Calls Try.prog 44 #[.slice A n c, .int .i64 (i : Int), .int .i64 (m : Int)] w fun e w' => ∃ r : Nat, e = .returned (.int .i64 (r : Int)) ∧ r < m ∧ w = w' := by
  have hm0 : ¬ (m : Int) = 0 := by omega
  by_cases hlt : i < n
  · obtain ⟨b, o, x, rfl, hbB, hc, hx⟩ := hY.at_ hlt
    clear hY
    go_enter Try.func44, Try.ntmps44
    go_wp2
    go_ret
    exact ⟨x % m, by rw [← mod_nat]; rfl, Nat.mod_lt _ (by omega), rfl⟩
  · clear hY
    go_enter Try.func44, Try.ntmps44
    go_wp2
    go_ret
    exact ⟨(i * 37 + 11) % m, by rw [← mod_nat]; simp, Nat.mod_lt _ (by omega), rfl⟩

theorem long_big (A : Option Addr) (n c : Nat) (A2 : Option Addr) (n2 c2 : Nat) (w : World) (h : 1048576 < n ∨ 1048576 < n2) (hn : n ≤ 9223372036854775807) (hn2 : n2 ≤ 9223372036854775807) :
    Calls Try.prog 43 #[.slice A n c, .slice A2 n2 c2] w fun e w' => e = .returned (.bool true) ∧ w = w' := by
  by_cases h1 : 1048576 < n
  · have d1 : decide ((1048576 : Int) < (n : Int)) = true := decide_eq_true (by omega)
    go_enter Try.func43, Try.ntmps43
    go_wp2
    go_ret
    exact ⟨rfl, rfl⟩
  · have d1 : decide ((1048576 : Int) < (n : Int)) = false := decide_eq_false (by omega)
    have d2 : decide ((1048576 : Int) < (n2 : Int)) = true := decide_eq_true (by omega)
    go_enter Try.func43, Try.ntmps43
    go_wp2
    go_ret
    exact ⟨rfl, rfl⟩

/-- the number that is taken of some bytes -/
def atN (zs : List Int) (i m : Nat) : Nat := if i < zs.length then (zs.getD i 0).toNat % m else (i * 37 + 11) % m
theorem atN_lt (zs : List Int) (i : Nat) {m : Nat} (h : 0 < m) : atN zs i m < m := by
  unfold atN
  split <;> exact Nat.mod_lt _ h
theorem b10At_val (A : Option Addr) (n c : Nat) (zs : List Int) (B : Nat) (i m : Nat) (w : World) (hY : RdY w B A n zs) (_hn : n ≤ 1048576) (hi : i ≤ 1000) (hm : m ≤ 1000) (hm1 : 2 ≤ m) :
    Calls Try.prog 44 #[.slice A n c, .int .i64 (i : Int), .int .i64 (m : Int)] w fun e w' => e = .returned (.int .i64 ((atN zs i m : Nat) : Int)) ∧ w = w' := by
  have hm0 : ¬ (m : Int) = 0 := by omega
  have hl := hY.1
  by_cases hlt : i < n
  · obtain ⟨b, o, rfl, hbB, hcc⟩ := hY.2.1 (by omega)
    have hr := hY.2.2 i hlt
    have hc := hcc i hlt
    obtain ⟨x, hx⟩ := Int.eq_ofNat_of_zero_le hr.1
    have hE : atN zs i m = x % m := by unfold atN; rw [if_pos (by omega), hx]; rfl
    rw [hE]
    rw [hx] at hc
    have hx8 : x < 256 := by omega
    clear hY hcc hr hx hE hl
    go_enter Try.func44, Try.ntmps44
    go_wp2
    go_ret
    exact ⟨by rw [← mod_nat]; rfl, rfl⟩
  · have hE : atN zs i m = (i * 37 + 11) % m := by unfold atN; rw [if_neg (by omega)]
    rw [hE]
    clear hY hE hl
    go_enter Try.func44, Try.ntmps44
    go_wp2
    go_ret
    exact ⟨by rw [← mod_nat]; simp, rfl⟩

/-- the value v is a list of the call's own, from block B on, and holds xs -/
def LstB (w : World) (B : Nat) (v : Value) (xs : List Bool) : Prop := w.ownsRow B 4 1 v xs.length (bvs xs)
section
variable {w w' : World} {B B' : Nat} {v : Value} {xs : List Bool}
theorem LstB.nil (w : World) (B : Nat) : LstB w B (.slice none 0 0) [] := World.ownsRow_nil w B 4 1
theorem LstB.new (w : World) (hB : B ≤ w.heap.size) : LstB (w.alloc (.cells #[] 4)) B (.slice (some ⟨w.heap.size, 0, none⟩) 0 0) [] :=
  World.ownsRow_made w #[] 0 hB (Nat.zero_le _) rfl
theorem LstB.new' (w : World) (hB : B ≤ w.heap.size) {g : Nat} (hg : w.heap.size = g) : LstB (w.alloc (.cells #[] 4)) B (.slice (some ⟨g, 0, none⟩) 0 0) [] := by subst hg; exact LstB.new w hB
theorem LstB.alloc (h : LstB w B v xs) (o : Obj) : LstB (w.alloc o) B v xs := World.ownsRow.alloc h o
theorem LstB.drewN (h : LstB w B v xs) (k : Nat) : LstB (w.drewN k) B v xs := h
theorem LstB.blk (h : LstB w B v xs) : ∀ k, v.ownBlock = some k → B ≤ k ∧ k < w.heap.size := World.ownsRow.lt h
theorem LstB.kept (h : LstB w B v xs) {row : Option Nat} (hg : w.grownBy w' row) (hne : v.ownBlock = none ∨ v.ownBlock ≠ row) : LstB w' B v xs := World.ownsRow.kept h hg hne
end

theorem info_bool0 : (Try.prog.info? 4).map (fun i => (i.zero, i.size, i.bytes)) = some (some (.bool false), 1, 1) := by kernel_rfl
theorem LstB.form {w : World} {B n : Nat} {v : Value} {xs : List Bool} (h : LstB w B v xs) (hn : xs.length = n) : ∃ A c, v = .slice A n c ∧ w.ownsRow B 4 1 (.slice A n c) n (bvs xs) := by
  subst hn
  rcases h.2 with ⟨h1, h2⟩ | ⟨g, cap, cur, h1, h2⟩
  · subst h1
    rw [h2]
    exact ⟨none, 0, rfl, by have h' := h; unfold LstB at h'; rw [h2] at h'; exact h'⟩
  · subst h1
    exact ⟨_, _, rfl, h⟩
theorem LstB.below {w w' : World} {B B' : Nat} {v : Value} {xs : List Bool} (h : LstB w B v xs) (hb : Below B' w w') (hB : w.heap.size ≤ B') : LstB w' B v xs := by
  refine World.ownsRow.kept (row := none) h ⟨hb.os, hb.tape, hb.output, hb.size, fun k hk _ => hb.block k (by omega)⟩ ?_
  cases v.ownBlock <;> simp
section
variable {w : World}
theorem run_appB (t : TypeId) (B : Nat) (v : Value) (xs ys : List Bool) (hown : LstB w B v xs) (A : Option Addr) (m c : Nat) (hR : RdB w w.heap.size A m ys) (hnone : A = none → c = 0) (hlen : xs.length + m ≤ 1000000000000) (hB : B ≤ w.heap.size) :
    ∃ v' w', (Builtin.append_ #[49, 49] t #[v, .slice A m c]).run Try.prog w = .ok v' w' ∧ LstB w' B v' (xs ++ ys) ∧ w.grownBy w' v.ownBlock ∧ (v'.ownBlock = v.ownBlock ∨ v'.ownBlock = some w.heap.size) := by
  obtain ⟨i0, hi, hz0, hz1, hz2⟩ := info_parts info_bool0
  cases A with
  | none =>
    have hm : m = 0 := by
      rcases Nat.eq_zero_or_pos m with h0 | h0
      · exact h0
      · obtain ⟨b, o', hA, _⟩ := hR.2 h0
        cases hA
    subst hm
    have hc := hnone rfl
    subst hc
    have hy : ys = [] := List.eq_nil_of_length_eq_zero hR.len
    subst hy
    exact ⟨v, w, run_append_owned_none (P := Try.prog) w B 49 t 4 i0 1 Try.underlying49 hi v xs.length (bvs xs) hown, by rw [List.append_nil]; exact hown, World.grownBy.refl w _, .inl rfl⟩
  | some ad =>
    obtain ⟨v', w', hr, h2, h3, _, h5⟩ := run_append_own_at (P := Try.prog) w B 49 t 4 i0 (.bool false) 1 1 Try.underlying49 hi hz0 hz1 hz2 rfl (by omega) v xs.length (bvs xs) hown ad m c (bvs ys)
      (by rw [bvs_len, hR.len]; omega) (by
        intro j u hj
        have hjm : j < m := by
          have := (List.getElem?_eq_some_iff.1 hj).1
          rw [bvs_len, hR.len] at this
          exact this
        obtain ⟨b, off, hA, _, hc⟩ := hR.at_ hjm
        obtain rfl : ad = ⟨b, off, none⟩ := Option.some.inj hA
        rw [Go.WideShapes.add_plain, hc]
        rw [bvs_at _ _ (by rw [hR.len]; exact hjm)] at hj
        exact hj) (bvs_one ys) (by unfold maxLen; omega) (by omega) hB
    refine ⟨v', w', hr, ?_, h3, h5⟩
    unfold LstB
    rw [List.length_append, hR.len, ← bvs_app]
    exact h2

theorem wp_appB {o : Oper} {a : Act} {K : Act → World → Prop} {Q : Exit → Act → World → Prop} (s x : Operand)
    (ho : o.op = .call { callee := .builtin .append, args := #[s, x], argTypes := #[49, 49] }) (B : Nat) (v : Value) (xs ys : List Bool) (hs : a.eval s = v) (hown : LstB w B v xs)
    (A : Option Addr) (m c : Nat) (hx : a.eval x = .slice A m c) (hR : RdB w w.heap.size A m ys) (hnone : A = none → c = 0) (hlen : xs.length + m ≤ 1000000000000) (hB : B ≤ w.heap.size)
    (h : ∀ v' w', LstB w' B v' (xs ++ ys) → w.grownBy w' v.ownBlock → (v'.ownBlock = v.ownBlock ∨ v'.ownBlock = some w.heap.size) → K (a.put o.dst v') w') : o.wp Try.prog a w K Q := by
  obtain ⟨v', w', hr, h2, h3, h5⟩ := run_appB (w := w) o.type B v xs ys hown A m c hR hnone hlen hB
  unfold Oper.wp execOp
  simp only [ho, resolve, invoke, builtin, Sem.run_bind, Sem.run_pure, Result.andThen_ok, List.map_toArray, List.map_cons, List.map_nil, hs, hx, hr]
  exact h v' w' h2 h3 h5

theorem wpList_appB {ops : Array Oper} {rest : List Oper} {o : Oper} {a : Act} {Q : Exit → Act → World → Prop} (hgd : o.guard = none) (s x : Operand)
    (ho : o.op = .call { callee := .builtin .append, args := #[s, x], argTypes := #[49, 49] }) (B : Nat) (v : Value) (xs ys : List Bool) (hs : a.eval s = v) (hown : LstB w B v xs)
    (A : Option Addr) (m c : Nat) (hx : a.eval x = .slice A m c) (hR : RdB w w.heap.size A m ys) (hnone : A = none → c = 0) (hlen : xs.length + m ≤ 1000000000000) (hB : B ≤ w.heap.size)
    (h : ∀ v' w', LstB w' B v' (xs ++ ys) → w.grownBy w' v.ownBlock → (v'.ownBlock = v.ownBlock ∨ v'.ownBlock = some w.heap.size) → wpList Try.prog ops Q rest (a.put o.dst v') w') :
    wpList Try.prog ops Q (o :: rest) a w :=
  wpList_plain hgd fun _ hK => wp_appB s x ho B v xs ys hs hown A m c hx hR hnone hlen hB fun v' w' h2 h3 h4 => hK _ _ (h v' w' h2 h3 h4)

theorem step_appB {ops : Array Oper} {o : Oper} {a : Act} {K : Act → World → Prop} {Q : Exit → Act → World → Prop} {E : Prop} (hgd : o.guard = none) (s x : Operand)
    (ho : o.op = .call { callee := .builtin .append, args := #[s, x], argTypes := #[49, 49] }) (B : Nat) (v : Value) (xs ys : List Bool) (hs : a.eval s = v) (hown : LstB w B v xs)
    (A : Option Addr) (m c : Nat) (hx : a.eval x = .slice A m c) (hR : RdB w w.heap.size A m ys) (hnone : A = none → c = 0) (hlen : xs.length + m ≤ 1000000000000) (hB : B ≤ w.heap.size)
    (h : ∀ v' w', LstB w' B v' (xs ++ ys) → w.grownBy w' v.ownBlock → (v'.ownBlock = v.ownBlock ∨ v'.ownBlock = some w.heap.size) → K (a.put o.dst v') w') :
    if Region.wanted o (yielded ops a.tmps) = true then Oper.wp Try.prog o a w K Q else E := by
  have hw : Region.wanted o (yielded ops a.tmps) = true := by simp [Region.wanted, hgd]
  rw [if_pos hw]
  exact wp_appB s x ho B v xs ys hs hown A m c hx hR hnone hlen hB h
end

theorem rdB_one (w : World) (x : Bool) (t : TypeId) : RdB (w.alloc (.cells #[.bool x] t)) (w.alloc (.cells #[.bool x] t)).heap.size (some ⟨w.heap.size, 0, none⟩) 1 [x] := by
  refine ⟨rfl, fun _ => ⟨w.heap.size, 0, rfl, by simp, fun k hk => ?_⟩⟩
  obtain rfl : k = 0 := by omega
  exact cell_one_new w (.bool x) t 0 _ rfl
theorem LstB.formB {w : World} {B n : Nat} {v : Value} {xs : List Bool} (h : LstB w B v xs) (hn : xs.length = n) : ∃ A c, v = .slice A n c ∧ OwnB w B A n c xs := by
  subst hn
  obtain ⟨A, c, rfl, ho⟩ := ownB_of_row h
  exact ⟨A, c, rfl, ho⟩

end Go.Proofs.Ytlfffkjgepgcfaa.byts
