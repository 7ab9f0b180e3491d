/-
  The library's Grow of a nil list, and Concat of lists of float32 words. Conditions: those of each theorem.
-/
import Derived.Test.YtlfffkjgepgcfaaMemF
import Derived.Lib.AppendZerosOnto
namespace Go.Proofs.Ytlfffkjgepgcfaa.pl
open Go.RowKit
open base mem

theorem wpList_run_append {ops : Array Oper} {rest : List Oper} {o : Oper} {a : Act} {w : World} {Q : Exit → Act → World → Prop} (hgd : o.guard = none) (s x : Operand) (t t' : TypeId)
    (ho : o.op = .call { callee := .builtin .append, args := #[s, x], argTypes := #[t, t'] }) (u z : Value) (hs : a.eval s = u) (hx : a.eval x = z) (v' : Value) (w' : World)
    (hr : ∀ ty, (Builtin.append_ #[t, t'] ty #[u, z]).run Try.prog w = .ok v' w') (h : wpList Try.prog ops Q rest (a.put o.dst v') w') : wpList Try.prog ops Q (o :: rest) a w := by
  refine wpList_plain hgd fun K hK => ?_
  unfold Oper.wp execOp
  simp only [ho, resolve, invoke, builtin, Sem.run_bind, Sem.run_pure, Result.andThen_ok, List.map_toArray, List.map_cons, List.map_nil, hs, hx, hr o.type]
  exact hK _ _ h

set_option maxHeartbeats 1000000 in
theorem GrowF_nil (n : Nat) (w : World) (hn : n ≤ 10000000000) :
    Calls Try.prog 85 #[.slice none 0 0, .int .i64 n] w fun e w' => ∃ A c, e = .returned (.slice A 0 c) ∧ OwnF w' w.heap.size A 0 c [] ∧ Below w.heap.size w w' := by
  by_cases h0 : n = 0
  · subst h0
    go_enter Try.func85, Try.ntmps85
    go_wp2
    go_ret
    exact ⟨none, 0, rfl, OwnF.nil _ _, Below.refl _ _⟩
  · obtain ⟨i0, hi, hz0, hz1, hz2⟩ := info_parts info_f32
    have h1 : 1 ≤ n := by omega
    have hfit : Builtin.nextslicecap (0 + n) 0 * i0.bytes ≤ 281474976710656 := by
      rw [hz2]
      unfold Builtin.nextslicecap
      rw [if_pos (by omega)]
      omega
    have hfc : (Builtin.firstCells i0.size 0 (.slice none 0 0)).run Try.prog w.drew = .ok ([] : List Value).toArray w.drew := by simp [Builtin.firstCells]
    have hrz := fun ty => Lib.run_append_grow_zeros (P := Try.prog) w 41 3 ty 25 i0 (.float .f32 0) .i64 .i64 Try.underlying41 Try.underlying3 hi hz0 none 0 0 [] hfc n (by omega) (by omega) (by omega) (by omega) (by rw [hz2]; omega) hfit
    rw [Nat.zero_add] at hrz
    have hge := grownCap_ge w n 0 25
    have hle : grownCap w n 0 25 ≤ maxLen := grownCap_le_maxLen w n 0 25 (by unfold maxLen; omega)
    have hcs : ((([] : List Value).toArray ++ Builtin.zeroCells (Value.float .f32 0).cells n ++ Builtin.zeroCells (Value.float .f32 0).cells (grownCap w n 0 25 - n)) : Array Value).size = grownCap w n 0 25 * 1 := by
      simp only [Array.size_append, List.size_toArray, List.length_nil, size_zeroCells, Value.cells]
      simp
      omega
    generalize grownCap w n 0 25 = G at *
    generalize (([] : List Value).toArray ++ Builtin.zeroCells (Value.float .f32 0).cells n ++ Builtin.zeroCells (Value.float .f32 0).cells (G - n)) = cs at *
    have hmx : G ≤ 9223372036854775807 := by unfold maxLen at hle; exact hle
    have HC := hide hcs
    clear hfit hfc hi hz0 hz1 hz2 hcs
    have HLE := hide hle
    clear hle
    have HRZ := hide hrz
    clear hrz
    go_enter Try.func85, Try.ntmps85
    go_wp2_with (at_builtin; refine wpList_run_append rfl (.tmp 20) (.tmp 21) _ _ rfl _ _ rfl rfl _ _ HRZ.out ?_)
    go_ret
    exact ⟨_, _, rfl, World.ownsRow_made w.drew cs G (Nat.le_refl _) HLE.out HC.out, (Below.refl _ _).drew.alloc (Nat.le_refl _) _⟩

/-! ### lists of lists -/
/-- a list as it lies in a cell: its value's three parts and what it holds -/
structure SlF where
  A : Option Addr
  n : Nat
  c : Nat
  xs : List Nat
def SlF.val (t : SlF) : Value := .slice t.A t.n t.c
def SlF.ok (w : World) (B : Nat) (t : SlF) : Prop := RdF w B t.A t.n t.xs ∧ t.n ≤ t.c ∧ (t.A = none → t.c = 0)
/-- '.slice A m c' reads as the lists ts, everything from blocks below B -/
def RdSF (w : World) (B : Nat) (A : Option Addr) (m : Nat) (ts : List SlF) : Prop :=
  ts.length = m ∧ (∀ t ∈ ts, t.ok w B) ∧ (0 < m → ∃ b o, A = some ⟨b, o, none⟩ ∧ b < B ∧ ∀ i t, ts[i]? = some t → w.cell? ⟨b, o + i, none⟩ = some t.val)
section
variable {w w' : World} {B B' : Nat} {A : Option Addr} {m : Nat} {ts : List SlF} {t : SlF}
theorem SlF.ok.keep (h : t.ok w B) (hk : ∀ p : Addr, p.block < B → w'.cell? p = w.cell? p) : t.ok w' B := ⟨h.1.keep hk, h.2⟩
theorem SlF.ok.more (h : t.ok w B) (hB : B ≤ B') : t.ok w B' := ⟨h.1.more hB, h.2⟩
theorem SlF.ok.below (h : t.ok w B) (hb : Below B w w') : t.ok w' B := h.keep fun _ hp => hb.cell hp
theorem RdSF.len (h : RdSF w B A m ts) : ts.length = m := h.1
theorem RdSF.keep (h : RdSF w B A m ts) (hk : ∀ p : Addr, p.block < B → w'.cell? p = w.cell? p) : RdSF w' B A m ts :=
  ⟨h.1, fun t ht => (h.2.1 t ht).keep hk, fun hm => by
    obtain ⟨b, o, e, hb, hc⟩ := h.2.2 hm
    exact ⟨b, o, e, hb, fun i t ht => (hk _ hb).trans (hc i t ht)⟩⟩
theorem RdSF.more (h : RdSF w B A m ts) (hB : B ≤ B') : RdSF w B' A m ts :=
  ⟨h.1, fun t ht => (h.2.1 t ht).more hB, fun hm => by
    obtain ⟨b, o, e, hb, hc⟩ := h.2.2 hm
    exact ⟨b, o, e, by omega, hc⟩⟩
theorem RdSF.below (h : RdSF w B A m ts) (hb : Below B w w') : RdSF w' B A m ts := h.keep fun _ hp => hb.cell hp
theorem RdSF.at_ (h : RdSF w B A m ts) {k : Nat} (hk : k < m) : ∃ b o t, A = some ⟨b, o, none⟩ ∧ b < B ∧ ts[k]? = some t ∧ w.cell? ⟨b, o + k, none⟩ = some (.slice t.A t.n t.c) ∧ t.ok w B := by
  obtain ⟨b, o, e, hb, hc⟩ := h.2.2 (by omega)
  have hl : k < ts.length := by rw [h.1]; exact hk
  have ht : ts[k]? = some ts[k] := List.getElem?_eq_getElem hl
  exact ⟨b, o, ts[k], e, hb, ht, hc k _ ht, h.2.1 _ (List.getElem_mem hl)⟩
end
/-- the lists' lengths, and the lists joined, of the first k -/
def lenToF (ts : List SlF) : Nat → Nat
  | 0 => 0
  | k + 1 => lenToF ts k + (match ts[k]? with | some t => t.n | none => 0)
def catToF (ts : List SlF) : Nat → List Nat
  | 0 => []
  | k + 1 => catToF ts k ++ (match ts[k]? with | some t => t.xs | none => [])
theorem lenToF_at {ts : List SlF} {k : Nat} {t : SlF} (h : ts[k]? = some t) : lenToF ts (k + 1) = lenToF ts k + t.n := by rw [lenToF, h]
theorem catToF_at {ts : List SlF} {k : Nat} {t : SlF} (h : ts[k]? = some t) : catToF ts (k + 1) = catToF ts k ++ t.xs := by rw [catToF, h]
theorem lenToF_le (ts : List SlF) (M : Nat) (hM : ∀ t ∈ ts, t.n ≤ M) (k : Nat) : lenToF ts k ≤ k * M := by
  induction k with
  | zero => simp [lenToF]
  | succ k ih =>
    rw [lenToF, Nat.succ_mul]
    have : (match ts[k]? with | some t => t.n | none => 0) ≤ M := by
      split
      · next t ht => exact hM t (List.mem_iff_getElem?.2 ⟨k, ht⟩)
      · omega
    omega
theorem catToF_len (ts : List SlF) (hl : ∀ t ∈ ts, t.xs.length = t.n) (k : Nat) : (catToF ts k).length = lenToF ts k := by
  induction k with
  | zero => rfl
  | succ k ih =>
    rw [catToF, lenToF, List.length_append, ih]
    congr 1
    split
    · next t ht => exact hl t (List.mem_iff_getElem?.2 ⟨k, ht⟩)
    · rfl

set_option maxHeartbeats 1000000 in
theorem ConcatF_any (A : Option Addr) (m c : Nat) (ts : List SlF) (w : World) (hR : RdSF w w.heap.size A m ts) (hm : m ≤ 1000) (hM : ∀ t ∈ ts, t.n ≤ 1048576) :
    Calls Try.prog 65 #[.slice A m c] w fun e w' => ∃ A' c', e = .returned (.slice A' (catToF ts m).length c') ∧ OwnF w' w.heap.size A' (catToF ts m).length c' (catToF ts m) ∧ Below w.heap.size w w' := by
  have hlm := fun k => lenToF_le ts 1048576 hM k
  have HLM := hide hlm
  have HCL := hide (catToF_len ts (fun t ht => (hR.2.1 t ht).1.len))
  have HM := hide hM
  clear hM hlm
  go_enter Try.func65, Try.ntmps65
  go_wp2
  go_loop [3, 5, 11] (fun s _ i => ∃ k : Nat, k ≤ m ∧ i = .int .i64 k ∧ s = .int .i64 (lenToF ts k)) (fun _ _ i => m - (intOf i).toNat)
  case atStart => exact ⟨0, Nat.zero_le _, rfl, rfl⟩
  case round =>
    obtain ⟨k, hk, rfl, rfl⟩ := hrel
    by_cases hlt : k < m
    · obtain ⟨b, o, t, rfl, hbB, ht, hc, hok⟩ := hR.at_ hlt
      have hS := lenToF_at ht
      have h1 := HLM.out k
      have h2 := HM.out t (List.mem_iff_getElem?.2 ⟨k, ht⟩)
      have h3 : lenToF ts k ≤ 2000000000 := by omega
      have HS := hide hS
      clear hS h1 ht hok hR
      generalize lenToF ts k = L at *
      obtain ⟨tA, tn, tc, txs⟩ := t
      simp only at hc h2 HS
      go_wp2
      go_round
      case rel => exact ⟨k + 1, by omega, by go_num, by rw [HS.out]; go_num⟩
      case measure => simp only [intOf]; omega
    · obtain rfl : k = m := by omega
      have h1 := HLM.out k
      have h3 : lenToF ts k ≤ 2000000000 := by omega
      have HK := hide (rfl : lenToF ts k = lenToF ts k)
      generalize hL : lenToF ts k = L at *
      have HL := hide hL
      clear hL HK h1
      go_wp2_with (go_at_call 85; refine (GrowF_nil L _ (by omega)).mono ?_; rintro e v1 ⟨A1, c1, rfl, ho1, hb1⟩)
      have hz1 := hb1.size
      have hR1 := hR.below hb1
      have hL1 := LstF.of ho1
      clear ho1
      generalize hg : w.heap.size = g at *
      have HG := hide hg
      clear hg
      go_loopw [6, 8, 27] (fun v _ i wr => ∃ j : Nat, j ≤ k ∧ i = .int .i64 j ∧ LstF wr g v (catToF ts j) ∧ Below g w wr) (fun _ _ i _ => k - (intOf i).toNat)
      case atStart => exact ⟨0, Nat.zero_le _, rfl, hL1, hb1⟩
      case round =>
        obtain ⟨j, hj, rfl, hown, hbr⟩ := hrel
        have hgr : g ≤ wr.heap.size := by have := hbr.size; rw [HG.out] at this; exact this
        by_cases hlt : j < k
        · obtain ⟨b, o, t, rfl, hbB, ht, hc, hok⟩ := (hR.below hbr).at_ hlt
          have HS := hide (catToF_at ht)
          have h1 := HLM.out j
          have h2 := HM.out t (List.mem_iff_getElem?.2 ⟨j, ht⟩)
          have h4 : (catToF ts j).length ≤ 2000000000 := by rw [HCL.out j]; omega
          clear h1 ht hR hR1
          obtain ⟨tA, tn, tc, txs⟩ := t
          obtain ⟨hok1, hok2, hok3⟩ := hok
          simp only at hc h2 HS hok1 hok2 hok3
          go_wp2_with (at_builtin; refine wpList_appF rfl (.tmp 31) (.tmp 32) rfl g _ (catToF ts j) txs rfl hown tA tn tc rfl (hok1.more hgr) hok3 (by omega) hgr ?_; intro v4 w4 ho4 hg4 _)
          have hb4 : Below g wr w4 := hown.grown hg4 hgr
          have ho4' : LstF w4 g v4 (catToF ts (j + 1)) := by rw [HS.out]; exact ho4
          clear hg4 ho4 hown
          go_wp2
          go_roundw
          case rel => exact ⟨j + 1, by omega, by go_num, ho4', hbr.trans hb4⟩
          case measure => simp only [intOf]; omega
        · obtain rfl : j = k := by omega
          obtain ⟨A4, c4, rfl, ho⟩ := hown.form
          go_wp2
          go_ret
          refine ⟨A4, c4, rfl, ?_, ?_⟩
          · rw [HG.out]; exact ho
          · rw [HG.out]; exact hbr
end Go.Proofs.Ytlfffkjgepgcfaa.pl
