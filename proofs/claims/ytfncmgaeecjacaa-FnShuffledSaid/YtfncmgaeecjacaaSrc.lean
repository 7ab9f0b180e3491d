/-
  The source of choices that a statement draws from. Conditions: those of each theorem.
-/
import Derived.Test.YtfncmgaeecjacaaKind
namespace Go.Proofs.Ytfncmgaeecjacaa.hand
open Go.RowKit
open base mem

theorem byte_wf {z : Int} (h : (Lit.int .u8 z).wf = true) : 0 ≤ z ∧ z < 256 := by
  have h2 : (IntKind.u8.min ≤ z) ∧ z ≤ IntKind.u8.max := by simpa [Lit.wf] using h
  have e1 : IntKind.u8.min = 0 := by decide
  have e2 : IntKind.u8.max = 255 := by decide
  omega
theorem and_byte (y : Int) : ∃ r : Nat, r < 256 ∧ wrap64 (bits .and .u64 y 255) = (r : Int) := by
  have h255 : (BitVec.ofInt 64 255).toNat = 255 := by decide
  have hm : (BitVec.ofInt 64 y &&& BitVec.ofInt 64 255).toNat ≤ 255 := by
    rw [BitVec.toNat_and, h255]
    exact Nat.and_le_right
  have hw : bits .and .u64 y 255 = (((BitVec.ofInt 64 y &&& BitVec.ofInt 64 255).toNat : Nat) : Int) := by
    show IntKind.u64.wrap (((BitVec.ofInt 64 y &&& BitVec.ofInt 64 255).toNat : Nat) : Int) = _
    generalize (BitVec.ofInt 64 y &&& BitVec.ofInt 64 255).toNat = m at *
    exact IntWalk.u64_in _ ⟨by omega, by omega⟩
  rw [hw]
  exact ⟨_, by omega, IntWalk.wrap64_in _ ⟨by omega, by omega⟩⟩
/-- '.slice A n c' reads as the bytes zs, from blocks below B -/
def RdY (w : World) (B : Nat) (A : Option Addr) (n : Nat) (zs : List Int) : Prop :=
  zs.length = n ∧ (0 < n → ∃ b o, A = some ⟨b, o, none⟩ ∧ b < B ∧ ∀ k, k < n → w.cell? ⟨b, o + k, none⟩ = some (.int .u8 (zs.getD k 0))) ∧ ∀ k, k < n → 0 ≤ zs.getD k 0 ∧ zs.getD k 0 < 256
section
variable {w w' : World} {B B' : Nat} {A : Option Addr} {n : Nat} {zs : List Int}
theorem RdY.at_ (h : RdY w B A n zs) {k : Nat} (hk : k < n) : ∃ (b o x : Nat), A = some ⟨b, o, none⟩ ∧ b < B ∧ w.cell? ⟨b, o + k, none⟩ = some (.int .u8 (x : Int)) ∧ x < 256 := by
  obtain ⟨b, o, e, hb, hc⟩ := h.2.1 (by omega)
  have hr := h.2.2 k hk
  obtain ⟨x, hx⟩ := Int.eq_ofNat_of_zero_le hr.1
  exact ⟨b, o, x, e, hb, by rw [hc k hk, hx], by omega⟩
theorem RdY.keep (h : RdY w B A n zs) (hk : ∀ p : Addr, p.block < B → w'.cell? p = w.cell? p) : RdY w' B A n zs :=
  ⟨h.1, fun hn => by
    obtain ⟨b, o, e, hb, hc⟩ := h.2.1 hn
    exact ⟨b, o, e, hb, fun k hk' => (hk _ hb).trans (hc k hk')⟩, h.2.2⟩
theorem RdY.below (h : RdY w B A n zs) (hb : Below B w w') : RdY w' B A n zs := h.keep fun _ hp => hb.cell hp
theorem RdY.drewN (h : RdY w B A n zs) (q : Nat) : RdY (w.drewN q) B A n zs := h
end
theorem rdY_of_row {w : World} {a : Option Addr} {len cap : Nat} {zs : List Int}
    (h : (a = none ∧ len = 0 ∧ cap = 0 ∧ zs = []) ∨ ∃ x, a = some x ∧ len ≤ cap ∧ cap ≤ maxLen ∧ zs.length = cap ∧ (∀ i, i < zs.length → w.cell? (x.add i) = some (.int .u8 (zs.getD i 0))) ∧ ∀ n ∈ zs, (Lit.int .u8 n).wf = true) :
    RdY w w.heap.size a len (zs.take len) ∧ len ≤ cap ∧ len ≤ 9223372036854775807 := by
  rcases h with ⟨rfl, rfl, rfl, rfl⟩ | ⟨x, rfl, hl, hm, hz, hc, hw⟩
  · exact ⟨⟨rfl, fun h => absurd h (by omega), fun k hk => absurd hk (by omega)⟩, Nat.le_refl _, by omega⟩
  · have hr : ∀ k, k < len → 0 ≤ (zs.take len).getD k 0 ∧ (zs.take len).getD k 0 < 256 := by
      intro k hk
      have hkz : k < zs.length := by omega
      have e : (zs.take len).getD k 0 = zs[k] := by simp [List.getD, hk, hkz]
      have := hw zs[k] (List.getElem_mem hkz)
      rw [e]
      exact byte_wf this
    refine ⟨⟨by rw [List.length_take]; omega, fun h0 => ?_, hr⟩, hl, by unfold maxLen at hm; omega⟩
    obtain ⟨b, off, rfl, hcell⟩ := ints_at hc (by omega)
    refine ⟨b, off, rfl, ?_, fun k hk => ?_⟩
    · rcases Nat.lt_or_ge b w.heap.size with hlt | hge
      · exact hlt
      · have h1 := hcell 0 (by omega)
        simp [World.cell?, Array.getElem?_eq_none hge] at h1
    · rw [hcell k (by omega)]
      simp [List.getD, hk]
/-- a source that has gone so far, and what of memory may turn: its own block alone -/
structure Src (w : World) (gs : Nat) (A : Option Addr) (n c : Nat) (a : Nat) (s : Int) : Prop where
  box : Blk w gs 85 #[.slice A n c, .int .i64 (a : Int), .int .u64 s]
set_option maxRecDepth 20000 in
set_option maxHeartbeats 4000000 in
theorem srcNext_any (gs : Nat) (A : Option Addr) (n c a : Nat) (s : Int) (zs : List Int) (B : Nat) (w : World) (hY : RdY w B A n zs) (_hn : n ≤ 1048576) (ha : a ≤ 1000000000) (hS : Blk w gs 85 #[.slice A n c, .int .i64 (a : Int), .int .u64 s]) :
    Calls Try.prog 113 #[.pointer (some ⟨gs, 0, none⟩)] w fun e w' => ∃ (r : Nat) (s' : Int), e = .returned (.int .i64 (r : Int)) ∧ r < 256 ∧ Blk w' gs 85 #[.slice A n c, .int .i64 ((a + 1 : Nat) : Int), .int .u64 s'] ∧ w.grownBy w' (some gs) := by
  have hc0 := hS.cell 0
  have hc1 := hS.cell 1
  have hc2 := hS.cell 2
  have hf1 := hS.frozen 1
  have hf2 := hS.frozen 2
  have HX : Hid (∀ (q : Nat) (v1 v2 : Value) (q2 : Nat), Blk ((((w.drewN q).setCell ⟨gs, 1, none⟩ v1).setCell ⟨gs, 2, none⟩ v2).drewN q2) gs 85 #[.slice A n c, v1, v2] ∧ w.grownBy ((((w.drewN q).setCell ⟨gs, 1, none⟩ v1).setCell ⟨gs, 2, none⟩ v2).drewN q2) (some gs)) := by
    intro q v1 v2 q2
    refine ⟨((hS.drewN q).put 1 v1).put 2 v2, ⟨rfl, rfl, rfl, by simp [World.drewN], fun k hk hne => ?_⟩⟩
    have hkn : k ≠ gs := fun e => hne (by rw [e])
    exact (heap_setCell_other _ ⟨gs, 2, none⟩ k _ hkn).trans (heap_setCell_other _ ⟨gs, 1, none⟩ k _ hkn)
  by_cases hlt : a < n
  · obtain ⟨b, o, x, rfl, hbB, hcx, hx⟩ := hY.at_ hlt
    clear hY
    go_enter Try.func113, Try.ntmps113
    go_upto_region 2 with fail
    go_quiet (fail)
    go_upto_region 3 with fail
    go_quiet (fail)
    go_upto_region 6 with fail
    go_quiet (fail)
    go_wp2
    go_ret
    exact ⟨x, _, rfl, hx, (HX.out _ _ _ _).1, (HX.out _ (.int .i64 ((a : Int) + 1)) _ _).2⟩
  · clear hY
    go_enter Try.func113, Try.ntmps113
    go_upto_region 2 with fail
    go_quiet (fail)
    go_upto_region 6 with fail
    go_quiet (fail)
    go_wp2
    obtain ⟨r, hr, he⟩ := and_byte (IntKind.u64.wrap (IntKind.u64.wrap (IntKind.u64.wrap (s * 6364136223846793005)) + 1442695040888963407) / 1099511627776)
    rw [he]
    go_ret
    exact ⟨r, _, rfl, hr, (HX.out _ _ _ _).1, (HX.out _ (.int .i64 ((a : Int) + 1)) _ _).2⟩

def Sr (w : World) (gs : Nat) (A : Option Addr) (n c a : Nat) : Prop := ∃ s : Int, Blk w gs 85 #[.slice A n c, .int .i64 (a : Int), .int .u64 s]
theorem mod_nat (r p : Nat) : ((r : Int)) % ((p : Nat) : Int) = ((r % p : Nat) : Int) := by omega
set_option maxRecDepth 20000 in
set_option maxHeartbeats 4000000 in
theorem srcPick_any (gs : Nat) (A : Option Addr) (n c a : Nat) (zs : List Int) (B : Nat) (p : Nat) (w : World) (hY : RdY w B A n zs) (hn : n ≤ 1048576) (ha : a ≤ 1000000000) (hS : Sr w gs A n c a) (hp2 : 2 ≤ p) (hp : p ≤ 200) :
    Calls Try.prog 99 #[.pointer (some ⟨gs, 0, none⟩), .int .i64 (p : Int)] w fun e w' => ∃ r : Nat, e = .returned (.int .i64 (r : Int)) ∧ r < p ∧ Sr w' gs A n c (a + 1) ∧ w.grownBy w' (some gs) := by
  obtain ⟨s, hS⟩ := hS
  have HN := hide (srcNext_any gs A n c a s zs B w hY hn ha hS)
  have hp1 : ¬ (p : Int) = 0 := by omega
  clear hY hS
  go_enter Try.func99, Try.ntmps99
  go_wp2_with (go_at_call 113; refine HN.out.mono ?_; rintro e w1 ⟨r, s', rfl, hr, hS1, hg1⟩)
  go_ret
  exact ⟨r % p, by rw [← mod_nat]; rfl, Nat.mod_lt _ (by omega), ⟨s', hS1⟩, hg1⟩
theorem srcFrom_any (A : Option Addr) (n c : Nat) (w : World) : Calls Try.prog 79 #[.slice A n c] w fun e w' => e = .returned (.pointer (some ⟨w.heap.size, 0, none⟩)) ∧ Sr w' w.heap.size A n c 0 ∧ Below w.heap.size w w' ∧ w'.heap.size = w.heap.size + 1 := by
  go_enter Try.func79, Try.ntmps79
  go_wp2
  go_ret
  exact ⟨rfl, ⟨0, Blk.new _ _ _⟩, (Below.refl _ _).alloc (Nat.le_refl _) _, by simp⟩

end Go.Proofs.Ytfncmgaeecjacaa.hand
