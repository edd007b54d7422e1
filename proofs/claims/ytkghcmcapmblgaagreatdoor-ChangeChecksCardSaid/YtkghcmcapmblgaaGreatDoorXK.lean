/- A part of the proof, merged out of smaller texts. Nothing is assumed. -/
import Derived.Test.YtkghcmcapmblgaaGreatDoorXD
set_option linter.all false
/- Addresses and prefixes: what the functions of this seat's program reckon. Nothing is assumed. -/
set_option linter.unusedVariables false
set_option linter.unusedSimpArgs false
set_option maxRecDepth 20000
namespace Go.V
open Go.Proofs

structure Addr where (v6 : Bool) (hi lo : Int)
deriving DecidableEq
structure Prefix where (addr : Addr) (bits : Int)
deriving DecidableEq
@[go_sem] theorem Addr.eta (a : Addr) : Addr.mk a.v6 a.hi a.lo = a := rfl
@[go_sem] theorem Prefix.eta (a : Prefix) : Prefix.mk a.addr a.bits = a := rfl
abbrev Addr.cs (a : Addr) : List PV := [.bool a.v6, .int .u64 a.hi, .int .u64 a.lo]
abbrev Prefix.cs (a : Prefix) : List PV := [.bool a.addr.v6, .int .u64 a.addr.hi, .int .u64 a.addr.lo, .int .i64 a.bits]
def Addr.zero : Addr := ⟨false, 0, 0⟩
def Prefix.zero : Prefix := ⟨.zero, 0⟩
@[simp, go_sem] theorem Addr.zero_v6 : Addr.zero.v6 = false := rfl
@[simp, go_sem] theorem Addr.zero_hi : Addr.zero.hi = 0 := rfl
@[simp, go_sem] theorem Addr.zero_lo : Addr.zero.lo = 0 := rfl
@[simp, go_sem] theorem Prefix.zero_addr : Prefix.zero.addr = .zero := rfl
@[simp, go_sem] theorem Prefix.zero_bits : Prefix.zero.bits = 0 := rfl

def Addr.ok (a : Addr) : Bool := a.v6 || (a.hi == 0 && decide (a.lo ≤ 4294967295))
def long (v6 : Bool) : Int := if v6 then 128 else 32
/-- The lowest bits: high and low half. -/
def ones (n : Int) : Int × Int := if n ≤ 64 then (0, 2 ^ n.toNat - 1) else (2 ^ (n - 64).toNat - 1, 18446744073709551615)
abbrev andI (a b : Int) : Int := andK .u64 a b
abbrev notI (a b : Int) : Int := notK .u64 a b
def Prefix.ok (p : Prefix) : Bool := p.addr.ok && (decide (0 ≤ p.bits) && decide (p.bits ≤ long p.addr.v6) && (andI p.addr.hi (ones (long p.addr.v6 - p.bits)).1 == 0 && andI p.addr.lo (ones (long p.addr.v6 - p.bits)).2 == 0))

theorem c138 (v6 : Bool) (hi lo : Int) : VF Tryz.prog 138 [.agg [.bool v6, .int .u64 hi, .int .u64 lo]] (.bool (Addr.ok ⟨v6, hi, lo⟩)) := by
  refine VF.intro Tryz.func138 rfl ok138 (by simp [Tryz.f138]) ?_
  simp [go_sem, Tryz.f138]
  cases v6 <;> simp +contextual [Addr.ok]
  rw [Bool.eq_iff_iff]; simp
  try omega
theorem c68 (v6 : Bool) (hi lo : Int) : VF Tryz.prog 68 [.agg [.bool v6, .int .u64 hi, .int .u64 lo]] (.bool (Addr.ok ⟨v6, hi, lo⟩)) := by
  refine VF.intro Tryz.func68 rfl ok68 (by simp [Tryz.f68]) ?_
  simp [go_sem, Tryz.f68]
  cases v6 <;> simp +contextual [Addr.ok]
  rw [Bool.eq_iff_iff]; simp
  try omega
theorem c164 (v6 : Bool) (hi lo : Int) : VF Tryz.prog 164 [.agg [.bool v6, .int .u64 hi, .int .u64 lo]] (.int .i64 (long v6)) := by
  refine VF.intro Tryz.func164 rfl ok164 (by simp [Tryz.f164]) ?_
  simp [go_sem, Tryz.f164, long]
theorem c116 (v6 : Bool) : VF Tryz.prog 116 [.bool v6] (.int .i64 (long v6)) := by
  refine VF.intro Tryz.func116 rfl ok116 (by simp [Tryz.f116]) ?_
  simp [go_sem, Tryz.f116, long]
theorem u64i64 (n : Int) (h : 0 ≤ n ∧ n ≤ 128) : IntKind.u64.wrap (IntKind.i64.wrap n) = n := by rw [i64w n (by omega), u64w n (by omega)]
theorem two_pow_le (n : Nat) (h : n ≤ 63) : (2 : Int) ^ n ≤ 9223372036854775808 ∧ 1 ≤ (2 : Int) ^ n := by
  have h1 : (2 : Nat) ^ n ≤ 2 ^ 63 := Nat.pow_le_pow_right (by omega) h
  have h2 : 1 ≤ (2 : Nat) ^ n := Nat.one_le_two_pow
  have e : ((2 : Int) ^ n) = (((2 : Nat) ^ n : Nat) : Int) := by push_cast; rfl
  rw [e]; omega
theorem shl_ones (n : Int) (h : 0 ≤ n ∧ n ≤ 64) : IntKind.u64.wrap (IntKind.u64.wrap (2 ^ min n.toNat 64) - 1) = 2 ^ n.toNat - 1 := by
  have e : min n.toNat 64 = n.toNat := by omega
  rw [e]
  by_cases h64 : n.toNat = 64
  · rw [h64]; rfl
  · obtain ⟨h1, h2⟩ := two_pow_le n.toNat (by omega)
    rw [u64w (2 ^ n.toNat) (by omega), u64w _ (by omega)]
theorem c165 (v6 : Bool) (n : Int) (h : 0 ≤ n ∧ n ≤ long v6) : VF Tryz.prog 165 [.bool v6, .int .i64 n] (.tup [.int .u64 (ones (long v6 - n)).1, .int .u64 (ones (long v6 - n)).2]) := by
  refine VF.intro Tryz.func165 rfl ok165 (by simp [Tryz.f165]) ?_
  simp [go_sem, Tryz.f165]
  cases v6 <;> simp only [long, Bool.false_eq_true, if_false, if_true, forall_const, false_implies, true_and, and_true, reduceCtorEq] at h ⊢
  · rw [u64i64 _ (by omega), shl_ones _ (by omega)]
    simp only [ones]; rw [if_pos (by omega)]
    exact ⟨by omega, rfl, rfl⟩
  · refine ⟨fun h1 => ?_, fun h1 => ?_⟩
    · rw [u64i64 _ (by omega), shl_ones _ (by omega)]
      simp only [ones]; rw [if_pos (by omega)]
      exact ⟨by omega, rfl, rfl⟩
    · rw [u64i64 _ (by omega), shl_ones _ (by omega)]
      simp only [ones]; rw [if_neg (by omega)]
      exact ⟨by omega, by rw [show (128 - n - 64 : Int) = 64 - n by omega], rfl⟩
theorem ones_succ (i : Int) (h : 0 ≤ i ∧ i < 128) : ones (i + 1) = (IntKind.u64.wrap (IntKind.u64.wrap ((ones i).1 * 2) + IntKind.u64.wrap ((ones i).2.tdiv 9223372036854775808)), IntKind.u64.wrap (IntKind.u64.wrap ((ones i).2 * 2) + 1)) := by
  have key : ∀ k : Fin 128, ones ((k.val : Int) + 1) = (IntKind.u64.wrap (IntKind.u64.wrap ((ones k.val).1 * 2) + IntKind.u64.wrap ((ones k.val).2.tdiv 9223372036854775808)), IntKind.u64.wrap (IntKind.u64.wrap ((ones k.val).2 * 2) + 1)) := by decide +kernel
  have := key ⟨i.toNat, by omega⟩
  simp only at this
  rwa [Int.toNat_of_nonneg h.1] at this
theorem c117 (n : Int) (h : 0 ≤ n ∧ n ≤ 128) : VF Tryz.prog 117 [.int .i64 n] (.tup [.int .u64 (ones n).1, .int .u64 (ones n).2]) := by
  refine VF.intro Tryz.func117 rfl ok117 (by simp [Tryz.f117]) ?_
  simp [go_sem, Tryz.f117]
  refine VW_forQ (fun i : Int => 0 ≤ i ∧ i ≤ n) (fun i => (n - i).toNat) (fun i => [(0, .int .i64 n), (4, .int .u64 (ones i).1), (5, .int .u64 (ones i).2), (6, .int .i64 i)]) (fun _ => []) 0 [] (by omega) ?_ ?_
  · simp [go_sem, ones]
  intro i hi
  simp [go_sem]
  refine ⟨fun h1 h2 => backK_of (i + 1) [] ⟨by omega, by omega, ?_⟩, fun h1 => ?_⟩
  · simp [go_sem]
    rw [ones_succ i (by omega), i64w (i + 1) (by omega)]
    exact ⟨rfl, rfl, rfl⟩
  · rw [show i = n by omega]; exact ⟨rfl, rfl⟩
theorem c112 (v6 : Bool) (hi lo bits : Int) : VF Tryz.prog 112 [.agg [.bool v6, .int .u64 hi, .int .u64 lo, .int .i64 bits]] (.bool (Prefix.ok ⟨⟨v6, hi, lo⟩, bits⟩)) := by
  refine VF.intro Tryz.func112 rfl ok112 (by simp [Tryz.f112]) ?_
  simp [go_sem, Tryz.f112]
  refine callK_of (c138 v6 hi lo) ?_
  simp [go_sem]
  refine callK_if (fun hg => c164 v6 hi lo) ?_
  simp [go_sem]
  refine drawK_of (by kernel_rfl) ?_
  simp [go_sem]
  refine ⟨fun h => ?_, fun h1 h2 h3 => ?_⟩
  · rw [Bool.eq_false_iff]; intro hp; simp [Prefix.ok] at hp
    rcases h with (h | h) | h
    · rw [h] at hp; simp at hp
    · omega
    · omega
  · refine callK_of (c165 v6 bits ⟨h2, h3⟩) ?_
    simp [go_sem]
    simp [Prefix.ok, h1, h2, h3]
    rfl
theorem c63 (v6 : Bool) (hi lo bits : Int) : VF Tryz.prog 63 [.agg [.bool v6, .int .u64 hi, .int .u64 lo, .int .i64 bits]] (.bool (Prefix.ok ⟨⟨v6, hi, lo⟩, bits⟩)) := by
  refine VF.intro Tryz.func63 rfl ok63 (by simp [Tryz.f63]) ?_
  simp [go_sem, Tryz.f63]
  refine callK_of (c68 v6 hi lo) ?_
  simp [go_sem]
  refine callK_if (fun hg => c116 v6) ?_
  simp [go_sem]
  refine drawK_of (by kernel_rfl) ?_
  simp [go_sem]
  refine ⟨fun h => ?_, fun h1 h2 h3 => ?_⟩
  · rw [Bool.eq_false_iff]; intro hp; simp [Prefix.ok] at hp
    rcases h with (h | h) | h
    · rw [h] at hp; simp at hp
    · omega
    · omega
  · have hl : long v6 ≤ 128 ∧ 32 ≤ long v6 := by cases v6 <;> simp [long]
    refine callK_of (c116 v6) ?_
    simp [go_sem]
    rw [i64w _ (by omega)]
    refine callK_of (c117 (long v6 - bits) (by omega)) ?_
    simp [go_sem]
    refine drawK_of (by kernel_rfl) ?_
    simp [go_sem]
    simp [Prefix.ok, h1, h2, h3]
    rfl
end Go.V
/- Addresses and prefixes, continued: order, containment. Nothing is assumed. -/
set_option linter.unusedVariables false
set_option linter.unusedSimpArgs false
set_option maxRecDepth 20000
set_option pp.deepTerms false
namespace Go.V
open Go.Proofs

def cmpI (a b : Int) : Int := if a < b then -1 else if b < a then 1 else 0
def Addr.cmp (a b : Addr) : Int := if a.v6 != b.v6 then (if b.v6 then -1 else 1) else if a.hi != b.hi then cmpI a.hi b.hi else cmpI a.lo b.lo
def Prefix.cmp (a b : Prefix) : Int := if a.addr.cmp b.addr != 0 then a.addr.cmp b.addr else cmpI a.bits b.bits

theorem c172 (a b : Int) : VF Tryz.prog 172 [.int .u64 a, .int .u64 b] (.int .i64 (cmpI a b)) := by
  refine VF.intro Tryz.func172 rfl ok172 (by simp [Tryz.f172]) ?_
  simp [go_sem, Tryz.f172]
  unfold cmpI
  refine ⟨fun h => by rw [if_pos h], fun h => ⟨fun h1 => by rw [if_neg (by omega), if_pos h1], fun h1 => by rw [if_neg (by omega), if_neg (by omega)]⟩⟩
theorem c134 (v6 : Bool) (hi lo : Int) (v6' : Bool) (hi' lo' : Int) : VF Tryz.prog 134 [.agg [.bool v6, .int .u64 hi, .int .u64 lo], .agg [.bool v6', .int .u64 hi', .int .u64 lo']] (.int .i64 (Addr.cmp ⟨v6, hi, lo⟩ ⟨v6', hi', lo'⟩)) := by
  refine VF.intro Tryz.func134 rfl ok134 (by simp [Tryz.f134]) ?_
  simp [go_sem, Tryz.f134]
  refine ⟨fun h1 h2 => by subst h2; simp_all [Addr.cmp], fun h => ⟨fun h1 => by have h2 := h h1; subst h2; simp_all [Addr.cmp], fun h1 => ⟨fun h2 => ?_, fun h2 => ?_⟩⟩⟩
  · refine callK_of (c172 hi hi') ?_
    simp [go_sem]
    simp [Addr.cmp, h1, h2]
  · refine callK_of (c172 lo lo') ?_
    simp [go_sem]
    simp [Addr.cmp, h1, h2]
theorem c120 (v6 : Bool) (hi lo : Int) (v6' : Bool) (hi' lo' : Int) : VF Tryz.prog 120 [.agg [.bool v6, .int .u64 hi, .int .u64 lo], .agg [.bool v6', .int .u64 hi', .int .u64 lo']] (.int .i64 (Addr.cmp ⟨v6, hi, lo⟩ ⟨v6', hi', lo'⟩)) := by
  refine VF.intro Tryz.func120 rfl ok120 (by simp [Tryz.f120]) ?_
  simp [go_sem, Tryz.f120]
  unfold Addr.cmp cmpI
  by_cases h1 : v6 = v6' <;> by_cases h2 : hi = hi' <;> simp [h1, h2]
  all_goals (repeat' (first | intro _ | constructor)) <;> (repeat' split) <;> omega
theorem c84 (v6 : Bool) (hi lo bits : Int) (v6' : Bool) (hi' lo' bits' : Int) : VF Tryz.prog 84 [.agg [.bool v6, .int .u64 hi, .int .u64 lo, .int .i64 bits], .agg [.bool v6', .int .u64 hi', .int .u64 lo', .int .i64 bits']] (.int .i64 (Prefix.cmp ⟨⟨v6, hi, lo⟩, bits⟩ ⟨⟨v6', hi', lo'⟩, bits'⟩)) := by
  refine VF.intro Tryz.func84 rfl ok84 (by simp [Tryz.f84]) ?_
  simp [go_sem, Tryz.f84]
  refine callK_of (c134 v6 hi lo v6' hi' lo') ?_
  simp [go_sem]
  unfold Prefix.cmp cmpI
  (repeat' (first | intro _ | constructor)) <;> (repeat' split) <;> simp_all <;> omega
theorem c65 (v6 : Bool) (hi lo bits : Int) (v6' : Bool) (hi' lo' bits' : Int) : VF Tryz.prog 65 [.agg [.bool v6, .int .u64 hi, .int .u64 lo, .int .i64 bits], .agg [.bool v6', .int .u64 hi', .int .u64 lo', .int .i64 bits']] (.int .i64 (Prefix.cmp ⟨⟨v6, hi, lo⟩, bits⟩ ⟨⟨v6', hi', lo'⟩, bits'⟩)) := by
  refine VF.intro Tryz.func65 rfl ok65 (by simp [Tryz.f65]) ?_
  simp [go_sem, Tryz.f65]
  refine callK_of (c120 v6 hi lo v6' hi' lo') ?_
  simp [go_sem]
  unfold Prefix.cmp cmpI
  (repeat' (first | intro _ | constructor)) <;> (repeat' split) <;> simp_all <;> omega
/-- The prefix of an address. -/
def Prefix.of (a : Addr) (n : Int) : Prefix := ⟨⟨a.v6, notI a.hi (ones (long a.v6 - n)).1, notI a.lo (ones (long a.v6 - n)).2⟩, n⟩
def Prefix.ofOk (a : Addr) (n : Int) : Bool := a.ok && decide (0 ≤ n) && decide (n ≤ long a.v6)
theorem c113 (v6 : Bool) (hi lo n : Int) : VF Tryz.prog 113 [.agg [.bool v6, .int .u64 hi, .int .u64 lo], .int .i64 n]
    (.tup [.agg (if Prefix.ofOk ⟨v6, hi, lo⟩ n then Prefix.cs (Prefix.of ⟨v6, hi, lo⟩ n) else Prefix.cs .zero), .bool (Prefix.ofOk ⟨v6, hi, lo⟩ n)]) := by
  refine VF.intro Tryz.func113 rfl ok113 (by simp [Tryz.f113]) ?_
  simp [go_sem, Tryz.f113]
  refine callK_of (c138 v6 hi lo) ?_
  simp [go_sem]
  refine callK_if (fun hg => c164 v6 hi lo) ?_
  simp [go_sem]
  refine ⟨fun h => ?_, fun h1 h2 h3 => ?_⟩
  · have : Prefix.ofOk ⟨v6, hi, lo⟩ n = false := by
      rw [Bool.eq_false_iff]; intro hp; simp [Prefix.ofOk] at hp
      rcases h with (h | h) | h
      · rw [h] at hp; simp at hp
      · omega
      · omega
    simp [this, Prefix.zero, Addr.zero]
  · have : Prefix.ofOk ⟨v6, hi, lo⟩ n = true := by simp [Prefix.ofOk, h1, h2, h3]
    refine callK_of (c165 v6 n ⟨h2, h3⟩) ?_
    simp [go_sem]
    simp [this, Prefix.of]
theorem bv_sub_and (x y : BitVec 64) : x - (x &&& y) = x &&& ~~~ y := by
  have h1 : (x &&& ~~~ y) + (x &&& y) = x := by
    rw [BitVec.add_eq_or_of_and_eq_zero]
    · ext i hi; simp; cases x[i] <;> simp
    · ext i hi; simp; cases x[i] <;> simp
  exact (BitVec.eq_sub_iff_add_eq.2 h1).symm
theorem wrap_u64' (n : Int) : IntKind.u64.wrap n = n % 18446744073709551616 := by simp [IntKind.wrap, IntKind.bits, IntKind.signed]
theorem sub_and (a m : Int) : IntKind.u64.wrap (a - andI a m) = notI a m := by
  have w : ∀ x : BitVec 64, IntKind.u64.wrap (x.toNat : Int) = x.toNat := fun x => u64w _ (by have := x.isLt; omega)
  show IntKind.u64.wrap (a - IntKind.u64.wrap ((BitVec.ofInt 64 a &&& BitVec.ofInt 64 m).toNat : Nat)) = IntKind.u64.wrap ((BitVec.ofInt 64 a &&& ~~~ BitVec.ofInt 64 m).toNat : Nat)
  rw [w, w, ← bv_sub_and, BitVec.toNat_sub, wrap_u64']
  have h1 := (BitVec.ofInt 64 a &&& BitVec.ofInt 64 m).isLt
  have h2 : (BitVec.ofInt 64 a).toNat = (a % 18446744073709551616).toNat := by simp [BitVec.toNat_ofInt]
  rw [h2]
  generalize (BitVec.ofInt 64 a &&& BitVec.ofInt 64 m).toNat = t at h1 ⊢
  omega
theorem c166 (v6 : Bool) (hi lo n : Int) : VF Tryz.prog 166 [.agg [.bool v6, .int .u64 hi, .int .u64 lo], .int .i64 n]
    (.tup [.agg (if Prefix.ofOk ⟨v6, hi, lo⟩ n then Prefix.cs (Prefix.of ⟨v6, hi, lo⟩ n) else Prefix.cs .zero), .bool (Prefix.ofOk ⟨v6, hi, lo⟩ n)]) := by
  refine VF.intro Tryz.func166 rfl ok166 (by simp [Tryz.f166]) ?_
  simp [go_sem, Tryz.f166]
  refine callK_of (c68 v6 hi lo) ?_
  simp [go_sem]
  refine callK_if (fun hg => c116 v6) ?_
  simp [go_sem]
  refine ⟨fun h => ?_, fun h1 h2 h3 => ?_⟩
  · have : Prefix.ofOk ⟨v6, hi, lo⟩ n = false := by
      rw [Bool.eq_false_iff]; intro hp; simp [Prefix.ofOk] at hp
      rcases h with (h | h) | h
      · rw [h] at hp; simp at hp
      · omega
      · omega
    simp [this, Prefix.zero, Addr.zero]
  · have : Prefix.ofOk ⟨v6, hi, lo⟩ n = true := by simp [Prefix.ofOk, h1, h2, h3]
    have hl : long v6 ≤ 128 ∧ 32 ≤ long v6 := by cases v6 <;> simp [long]
    refine callK_of (c116 v6) ?_
    simp [go_sem]
    rw [i64w _ (by omega)]
    refine callK_of (c117 (long v6 - n) (by omega)) ?_
    simp [go_sem]
    simp [this, Prefix.of, sub_and]
def Prefix.has (p : Prefix) (a : Addr) : Bool := p.ok && (p.addr.v6 == a.v6 && (Prefix.ofOk a p.bits && decide (Prefix.of a p.bits = p)))
theorem c55 (v6 : Bool) (hi lo bits : Int) (v6' : Bool) (hi' lo' : Int) : VF Tryz.prog 55 [.agg [.bool v6, .int .u64 hi, .int .u64 lo, .int .i64 bits], .agg [.bool v6', .int .u64 hi', .int .u64 lo']]
    (.bool (Prefix.has ⟨⟨v6, hi, lo⟩, bits⟩ ⟨v6', hi', lo'⟩)) := by
  refine VF.intro Tryz.func55 rfl ok55 (by simp [Tryz.f55]) ?_
  simp [go_sem, Tryz.f55]
  refine callK_of (c112 v6 hi lo bits) ?_
  simp [go_sem]
  refine ⟨fun h => ?_, fun h1 h2 => ?_⟩
  · rcases h with h | h <;> simp [Prefix.has, h]
  · subst h2
    cases ho : Prefix.ofOk ⟨v6, hi', lo'⟩ bits
    · refine callK_of (c113 v6 hi' lo' bits) ?_
      simp [go_sem]
      simp [go_sem, ho, Prefix.has]
    · refine callK_of (c113 v6 hi' lo' bits) ?_
      simp [go_sem, ho]
      simp only [Prefix.has, h1, ho, beq_self_eq_true, Bool.true_and]
      generalize Prefix.of ⟨v6, hi', lo'⟩ bits = q
      obtain ⟨⟨a1, a2, a3⟩, a4⟩ := q
      rw [Bool.eq_iff_iff]
      simp [and_assoc]
theorem c115 (v6 : Bool) (hi lo bits : Int) (v6' : Bool) (hi' lo' : Int) : VF Tryz.prog 115 [.agg [.bool v6, .int .u64 hi, .int .u64 lo, .int .i64 bits], .agg [.bool v6', .int .u64 hi', .int .u64 lo']]
    (.bool (Prefix.has ⟨⟨v6, hi, lo⟩, bits⟩ ⟨v6', hi', lo'⟩)) := by
  refine VF.intro Tryz.func115 rfl ok115 (by simp [Tryz.f115]) ?_
  simp [go_sem, Tryz.f115]
  refine callK_of (c63 v6 hi lo bits) ?_
  simp [go_sem]
  refine callK_if (fun hg => c68 v6' hi' lo') ?_
  simp [go_sem]
  refine ⟨fun h => ?_, fun h1 h2 h3 => ?_⟩
  · rcases h with (h | h) | h <;> simp [Prefix.has, Prefix.ofOk, h]
  · subst h3
    have hb : 0 ≤ bits ∧ bits ≤ long v6 := by simp [Prefix.ok] at h1; omega
    have ho : Prefix.ofOk ⟨v6, hi', lo'⟩ bits = true := by simp [Prefix.ofOk, h2, hb]
    refine callK_of (c166 v6 hi' lo' bits) ?_
    simp [go_sem, ho]
    simp only [Prefix.has, h1, ho, beq_self_eq_true, Bool.true_and]
    generalize Prefix.of ⟨v6, hi', lo'⟩ bits = q
    obtain ⟨⟨a1, a2, a3⟩, a4⟩ := q
    rw [Bool.eq_iff_iff]
    simp [and_assoc]
def Prefix.within (p q : Prefix) : Bool := p.ok && (decide (q.bits ≤ p.bits) && q.has p.addr)
theorem c108 (v6 : Bool) (hi lo bits : Int) (v6' : Bool) (hi' lo' bits' : Int) : VF Tryz.prog 108 [.agg [.bool v6, .int .u64 hi, .int .u64 lo, .int .i64 bits], .agg [.bool v6', .int .u64 hi', .int .u64 lo', .int .i64 bits']]
    (.bool (Prefix.within ⟨⟨v6, hi, lo⟩, bits⟩ ⟨⟨v6', hi', lo'⟩, bits'⟩)) := by
  refine VF.intro Tryz.func108 rfl ok108 (by simp [Tryz.f108]) ?_
  simp [go_sem, Tryz.f108]
  refine callK_of (c112 v6 hi lo bits) ?_
  simp [go_sem]
  refine callK_if (fun hg => c112 v6' hi' lo' bits') ?_
  simp [go_sem]
  refine callK_if (fun hg => c55 v6' hi' lo' bits' v6 hi lo) ?_
  simp [go_sem]
  rw [Bool.eq_iff_iff]
  simp [Prefix.within, Prefix.has, and_assoc]
  intros; assumption
theorem c114 (v6 : Bool) (hi lo bits : Int) (v6' : Bool) (hi' lo' bits' : Int) : VF Tryz.prog 114 [.agg [.bool v6, .int .u64 hi, .int .u64 lo, .int .i64 bits], .agg [.bool v6', .int .u64 hi', .int .u64 lo', .int .i64 bits']]
    (.bool (Prefix.within ⟨⟨v6, hi, lo⟩, bits⟩ ⟨⟨v6', hi', lo'⟩, bits'⟩)) := by
  refine VF.intro Tryz.func114 rfl ok114 (by simp [Tryz.f114]) ?_
  simp [go_sem, Tryz.f114]
  refine callK_of (c63 v6 hi lo bits) ?_
  simp [go_sem]
  refine callK_if (fun hg => c115 v6' hi' lo' bits' v6 hi lo) ?_
  simp [go_sem]
  simp [Prefix.within, Bool.and_assoc]
theorem c189 (v6 : Bool) (hi lo bits : Int) (v6' : Bool) (hi' lo' bits' : Int) : VF Tryz.prog 189 [.agg [.bool v6, .int .u64 hi, .int .u64 lo, .int .i64 bits], .agg [.bool v6', .int .u64 hi', .int .u64 lo', .int .i64 bits']]
    (.bool (Prefix.within ⟨⟨v6, hi, lo⟩, bits⟩ ⟨⟨v6', hi', lo'⟩, bits'⟩ || Prefix.within ⟨⟨v6', hi', lo'⟩, bits'⟩ ⟨⟨v6, hi, lo⟩, bits⟩)) := by
  refine VF.intro Tryz.func189 rfl ok189 (by simp [Tryz.f189]) ?_
  simp [go_sem, Tryz.f189]
  refine callK_of (c108 v6 hi lo bits v6' hi' lo' bits') ?_
  simp [go_sem]
  refine callK_if (fun hg => c108 v6' hi' lo' bits' v6 hi lo bits) ?_
  simp [go_sem]
theorem c191 (v6 : Bool) (hi lo bits : Int) (v6' : Bool) (hi' lo' bits' : Int) : VF Tryz.prog 191 [.agg [.bool v6, .int .u64 hi, .int .u64 lo, .int .i64 bits], .agg [.bool v6', .int .u64 hi', .int .u64 lo', .int .i64 bits']]
    (.bool (Prefix.within ⟨⟨v6, hi, lo⟩, bits⟩ ⟨⟨v6', hi', lo'⟩, bits'⟩ || Prefix.within ⟨⟨v6', hi', lo'⟩, bits'⟩ ⟨⟨v6, hi, lo⟩, bits⟩)) := by
  refine VF.intro Tryz.func191 rfl ok191 (by simp [Tryz.f191]) ?_
  simp [go_sem, Tryz.f191]
  refine callK_of (c114 v6 hi lo bits v6' hi' lo' bits') ?_
  simp [go_sem]
  refine callK_if (fun hg => c114 v6' hi' lo' bits' v6 hi lo bits) ?_
  simp [go_sem]
end Go.V
/- Parts and halves of prefixes. Nothing is assumed. -/
set_option linter.unusedVariables false
set_option linter.unusedSimpArgs false
set_option maxRecDepth 20000
set_option pp.deepTerms false
namespace Go.V
open Go.Proofs

/-- The bit that tells the second half: high and low half of the address. -/
def bitAt (s : Int) : Int × Int := if 64 ≤ s then (2 ^ (s - 64).toNat, 0) else (0, 2 ^ s.toNat)
/-- The part number 0 or 1. -/
def Prefix.part (p : Prefix) (n : Int) (i : Bool) : Prefix :=
  if i then ⟨⟨p.addr.v6, orK .u64 p.addr.hi (bitAt (long p.addr.v6 - n)).1, orK .u64 p.addr.lo (bitAt (long p.addr.v6 - n)).2⟩, n⟩
  else ⟨⟨p.addr.v6, orK .u64 p.addr.hi 0, orK .u64 p.addr.lo 0⟩, n⟩
def Prefix.partOk (p : Prefix) (n : Int) (i : Bool) : Bool := p.ok && (decide (p.bits ≤ n) && decide (n ≤ long p.addr.v6)) && !(i && n == p.bits)
theorem two_pow_ge (n : Nat) (h : 1 ≤ n) : (2 : Int) ≤ 2 ^ n := by
  have : (2 : Nat) ^ 1 ≤ 2 ^ n := Nat.pow_le_pow_right (by omega) h
  have e : ((2 : Int) ^ n) = (((2 : Nat) ^ n : Nat) : Int) := by push_cast; rfl
  rw [e]; omega
theorem c158 (v6 : Bool) (hi lo bits n : Int) (i : Bool) : VF Tryz.prog 158 [.agg [.bool v6, .int .u64 hi, .int .u64 lo, .int .i64 bits], .int .i64 n, .int .u64 (if i then 1 else 0)]
    (.tup [.agg (if Prefix.partOk ⟨⟨v6, hi, lo⟩, bits⟩ n i then Prefix.cs (Prefix.part ⟨⟨v6, hi, lo⟩, bits⟩ n i) else Prefix.cs .zero), .bool (Prefix.partOk ⟨⟨v6, hi, lo⟩, bits⟩ n i)]) := by
  refine VF.intro Tryz.func158 rfl ok158 (by simp [Tryz.f158]) ?_
  simp [go_sem, Tryz.f158]
  refine callK_of (c112 v6 hi lo bits) ?_
  simp [go_sem]
  refine callK_if (fun hg => c164 v6 hi lo) ?_
  simp [go_sem]
  refine ⟨fun h => ?_, fun h1 h2 h3 => ?_⟩
  · have hn : Prefix.partOk ⟨⟨v6, hi, lo⟩, bits⟩ n i = false := by
      rw [Bool.eq_false_iff]; intro hp; simp [Prefix.partOk] at hp
      rcases h with (h | h) | h
      · rw [h] at hp; simp at hp
      · omega
      · omega
    simp [hn, Prefix.zero, Addr.zero]
  · have hb : 0 ≤ bits ∧ bits ≤ long v6 := by simp [Prefix.ok] at h1; omega
    have hl : long v6 ≤ 128 ∧ 32 ≤ long v6 := by cases v6 <;> simp [long]
    have hz : (if i = true then (1 : Int) else 0).fdiv (2 ^ min (n - bits).toNat 64) = if (i && n == bits) = true then 1 else 0 := by
      cases i
      · simp
      · by_cases hd : n = bits
        · subst hd; simp
        · have h1 : 1 ≤ min (n - bits).toNat 64 := by omega
          have h2 : (2 : Int) ≤ 2 ^ min (n - bits).toNat 64 := by
            have : (2 : Nat) ^ 1 ≤ 2 ^ min (n - bits).toNat 64 := Nat.pow_le_pow_right (by omega) h1
            have e : ((2 : Int) ^ min (n - bits).toNat 64) = (((2 : Nat) ^ min (n - bits).toNat 64 : Nat) : Int) := by push_cast; rfl
            rw [e]; omega
          rw [if_pos rfl, Int.fdiv_eq_ediv_of_nonneg _ (by omega), if_neg (by simp [hd])]
          exact Int.ediv_eq_zero_of_lt (by omega) (by omega)
    rw [i64w _ (by omega), u64w _ (by omega), hz, if_neg (by omega : ¬ n - bits < 0)]
    simp [go_sem]
    have hok : Prefix.partOk ⟨⟨v6, hi, lo⟩, bits⟩ n i = !(i && n == bits) := by simp [Prefix.partOk, h1, h2, h3]
    refine ⟨fun hd hi1 hnb => ?_, fun hc => ?_⟩
    · have : (i && n == bits) = true := by simp [hi1, hnb]
      simp [hok, this, Prefix.zero, Addr.zero]
    · have : (i && n == bits) = false := by
        rw [Bool.eq_false_iff]; intro hh; simp at hh
        exact hc (by omega) hh.1 hh.2
      refine callK_of (c164 v6 hi lo) ?_
      simp [go_sem]
      rw [i64w (long v6 - n) (by omega), u64w (long v6 - n) (by omega)]
      simp only [hok, this, Bool.not_false, if_true, and_true]
      refine ⟨fun hs => ⟨by rw [u64w _ (by omega)]; omega, ?_⟩, fun hs => ⟨fun hp => ⟨by rw [u64w _ (by omega)]; omega, by omega, ?_⟩, fun hp => ?_⟩⟩
      · cases i
        · simp [Prefix.part, u64w 0 (by omega)]
        · have hn : n ≠ bits := by intro e; subst e; simp at this
          rw [u64w (long v6 - n - 64) (by omega), show min (long v6 - n - 64).toNat 64 = (long v6 - n - 64).toNat by omega]
          have hp := two_pow_le (long v6 - n - 64).toNat (by omega)
          simp [Prefix.part, bitAt, hs]
          rw [u64w _ (by omega)]
      · cases i
        · simp [Prefix.part, u64w 0 (by omega)]
        · have hp := two_pow_le (long v6 - n).toNat (by omega)
          rw [u64w (64 - (long v6 - n)) (by omega), show min (long v6 - n).toNat 64 = (long v6 - n).toNat by omega, show min (64 - (long v6 - n)).toNat 64 = (64 - (long v6 - n)).toNat by omega]
          have hq := two_pow_ge (64 - (long v6 - n)).toNat (by omega)
          have hd : (1 : Int).fdiv (2 ^ (64 - (long v6 - n)).toNat) = 0 := by
            rw [Int.fdiv_eq_ediv_of_nonneg _ (by omega)]
            exact Int.ediv_eq_zero_of_lt (by omega) (by omega)
          simp [Prefix.part, bitAt, hd, show ¬ (64 : Int) ≤ long v6 - n by omega]
          rw [u64w _ (by omega)]
      · cases i
        · simp [Prefix.part]
        · have e : long v6 - n = 0 := by omega
          simp [Prefix.part, bitAt, e]
theorem bitAt_succ (s : Int) (h : 0 ≤ s ∧ s < 127) : bitAt (s + 1) = (IntKind.u64.wrap (IntKind.u64.wrap ((bitAt s).1 * 2) + IntKind.u64.wrap ((bitAt s).2.tdiv 9223372036854775808)), IntKind.u64.wrap ((bitAt s).2 * 2)) := by
  have key : ∀ k : Fin 127, bitAt ((k.val : Int) + 1) = (IntKind.u64.wrap (IntKind.u64.wrap ((bitAt k.val).1 * 2) + IntKind.u64.wrap ((bitAt k.val).2.tdiv 9223372036854775808)), IntKind.u64.wrap ((bitAt k.val).2 * 2)) := by decide +kernel
  have := key ⟨s.toNat, by omega⟩
  simp only at this
  rwa [Int.toNat_of_nonneg h.1] at this
theorem bit_in : ∀ t : Fin 129, ∀ s : Fin 128, s.val < t.val → BitVec.ofInt 64 (bitAt s.val).1 &&& BitVec.ofInt 64 (ones t.val).1 = BitVec.ofInt 64 (bitAt s.val).1 ∧ BitVec.ofInt 64 (bitAt s.val).2 &&& BitVec.ofInt 64 (ones t.val).2 = BitVec.ofInt 64 (bitAt s.val).2 := by decide +kernel
theorem add_or (a b m : Int) (h : andI a m = 0) (hb : BitVec.ofInt 64 b &&& BitVec.ofInt 64 m = BitVec.ofInt 64 b) : IntKind.u64.wrap (a + b) = orK .u64 a b := by
  have w : ∀ x : BitVec 64, IntKind.u64.wrap (x.toNat : Int) = x.toNat := fun x => u64w _ (by have := x.isLt; omega)
  have h0 : BitVec.ofInt 64 a &&& BitVec.ofInt 64 m = 0#64 := by
    have h' : IntKind.u64.wrap ((BitVec.ofInt 64 a &&& BitVec.ofInt 64 m).toNat : Nat) = 0 := h
    rw [w] at h'
    apply BitVec.eq_of_toNat_eq
    simpa using h'
  have h1 : BitVec.ofInt 64 a &&& BitVec.ofInt 64 b = 0#64 := by
    rw [← hb, BitVec.and_comm (BitVec.ofInt 64 b), ← BitVec.and_assoc, h0]; simp
  show _ = IntKind.u64.wrap ((BitVec.ofInt 64 a ||| BitVec.ofInt 64 b).toNat : Nat)
  rw [← BitVec.add_eq_or_of_and_eq_zero _ _ h1, w, ← BitVec.ofInt_add, BitVec.toNat_ofInt, wrap_u64']
  omega
theorem ones_lt (d : Int) (h : 0 ≤ d ∧ d ≤ 128) : (ones d).2 < 1 ↔ d = 0 := by
  have key : ∀ k : Fin 129, ((ones (k.val : Int)).2 < 1 ↔ k.val = 0) := by decide +kernel
  have := key ⟨d.toNat, by omega⟩
  simp only at this
  rw [Int.toNat_of_nonneg h.1] at this
  rw [this]; omega
theorem bit_in' (t s : Int) (ht : t ≤ 128) (hs : 0 ≤ s ∧ s < t) : BitVec.ofInt 64 (bitAt s).1 &&& BitVec.ofInt 64 (ones t).1 = BitVec.ofInt 64 (bitAt s).1 ∧ BitVec.ofInt 64 (bitAt s).2 &&& BitVec.ofInt 64 (ones t).2 = BitVec.ofInt 64 (bitAt s).2 := by
  have := bit_in ⟨t.toNat, by omega⟩ ⟨s.toNat, by omega⟩ (by simp only; omega)
  simp only at this
  rwa [Int.toNat_of_nonneg hs.1, Int.toNat_of_nonneg (by omega : 0 ≤ t)] at this
theorem c171 (v6 : Bool) (hi lo bits n : Int) (i : Bool) : VF Tryz.prog 171 [.agg [.bool v6, .int .u64 hi, .int .u64 lo, .int .i64 bits], .int .i64 n, .int .u64 (if i then 1 else 0)]
    (.tup [.agg (if Prefix.partOk ⟨⟨v6, hi, lo⟩, bits⟩ n i then Prefix.cs (Prefix.part ⟨⟨v6, hi, lo⟩, bits⟩ n i) else Prefix.cs .zero), .bool (Prefix.partOk ⟨⟨v6, hi, lo⟩, bits⟩ n i)]) := by
  refine VF.intro Tryz.func171 rfl ok171 (by simp [Tryz.f171]) ?_
  simp [go_sem, Tryz.f171]
  refine callK_of (c63 v6 hi lo bits) ?_
  simp [go_sem]
  refine callK_if (fun hg => c116 v6) ?_
  simp [go_sem]
  refine ⟨fun h => ?_, fun h1 h2 h3 => ?_⟩
  · have hn : Prefix.partOk ⟨⟨v6, hi, lo⟩, bits⟩ n i = false := by
      rw [Bool.eq_false_iff]; intro hp; simp [Prefix.partOk] at hp
      rcases h with (h | h) | h
      · rw [h] at hp; simp at hp
      · omega
      · omega
    simp [hn, Prefix.zero, Addr.zero]
  · have hb : 0 ≤ bits ∧ bits ≤ long v6 := by simp [Prefix.ok] at h1; omega
    have hl : long v6 ≤ 128 ∧ 32 ≤ long v6 := by cases v6 <;> simp [long]
    have hok : Prefix.partOk ⟨⟨v6, hi, lo⟩, bits⟩ n i = !(i && n == bits) := by simp [Prefix.partOk, h1, h2, h3]
    rw [i64w _ (by omega)]
    refine callK_of (c117 (n - bits) (by omega)) ?_
    simp [go_sem]
    have hz := ones_lt (n - bits) (by omega)
    refine ⟨fun hlt => ?_, fun hge => ?_⟩
    · have hn : Prefix.partOk ⟨⟨v6, hi, lo⟩, bits⟩ n i = false := by
        rw [hok]
        cases i
        · simp at hlt; have := ones_lt (n - bits) (by omega)
          have key : ∀ k : Fin 129, 0 ≤ (ones (k.val : Int)).2 := by decide +kernel
          have := key ⟨(n - bits).toNat, by omega⟩
          simp only at this
          rw [Int.toNat_of_nonneg (by omega)] at this
          omega
        · simp at hlt
          have : n = bits := by have := hz.1 (by simpa using hlt); omega
          simp [this]
      simp [hn, Prefix.zero, Addr.zero]
    · have hok1 : Prefix.partOk ⟨⟨v6, hi, lo⟩, bits⟩ n i = true := by
        rw [hok]
        cases i
        · rfl
        · simp at hge
          simp
          intro e
          have := hz.2 (by omega)
          omega
      refine VW_forQ (fun k : Int => n ≤ k ∧ k ≤ long v6) (fun k => (long v6 - k).toNat)
        (fun k => [(1, .int .i64 n), (3, .ptr 1000 0), (6, .ptr 1001 0), (10, .int .u64 (if i then (bitAt (k - n)).1 else 0)), (11, .int .u64 (if i then (bitAt (k - n)).2 else 0)), (12, .int .i64 k)])
        (fun _ => [(1000, .box [.bool v6, .int .u64 hi, .int .u64 lo, .int .i64 bits] true), (1001, .box [.bool false, .int .u64 0, .int .u64 0, .int .i64 0] true)]) n [some 1000, some 1001] (by omega) ?_ ?_
      · simp [go_sem, bitAt]
      · intro k hk
        simp [go_sem]
        refine callK_of (c116 v6) ?_
        simp [go_sem]
        refine ⟨fun hlt => backK_of (k + 1) [some 1000, some 1001] ⟨by omega, by omega, ?_⟩, fun hle => ?_⟩
        · simp [go_sem]
          rw [i64w (k + 1) (by omega), show k + 1 - n = (k - n) + 1 by omega]
          cases i
          · exact ⟨rfl, rfl, rfl⟩
          · have hn : n ≠ bits := by intro e; subst e; simp [Prefix.partOk] at hok1
            rw [bitAt_succ (k - n) (by omega)]
            simp
        · have e : k = long v6 := by omega
          subst e
          simp only [Prefix.ok, Bool.and_eq_true, beq_iff_eq] at h1
          simp only [hok1, if_true, and_true]
          cases i
          · simp [Prefix.part]
            have q := fun a : Int => add_or a 0 0 (by show IntKind.u64.wrap ((BitVec.ofInt 64 a &&& BitVec.ofInt 64 0).toNat : Nat) = 0; simp; exact u64w 0 (by omega)) (by simp)
            have q1 := q hi; have q2 := q lo
            simp at q1 q2
            exact ⟨q1, q2⟩
          · have hn : n ≠ bits := by intro e; subst e; simp [Prefix.partOk] at hok1
            obtain ⟨b1, b2⟩ := bit_in' (long v6 - bits) (long v6 - n) (by omega) (by omega)
            simp only [Prefix.part, if_true]
            rw [add_or hi _ _ h1.2.2.1 b1, add_or lo _ _ h1.2.2.2 b2]
end Go.V
/- Halves of prefixes. Nothing is assumed. -/
set_option linter.unusedVariables false
set_option linter.unusedSimpArgs false
set_option maxRecDepth 20000
set_option pp.deepTerms false
namespace Go.V
open Go.Proofs

def Prefix.halvesOk (p : Prefix) : Bool := p.ok && decide (p.bits < long p.addr.v6)
theorem c157 (v6 : Bool) (hi lo bits : Int) : VF Tryz.prog 157 [.agg [.bool v6, .int .u64 hi, .int .u64 lo, .int .i64 bits]]
    (.tup [.agg (if Prefix.halvesOk ⟨⟨v6, hi, lo⟩, bits⟩ then Prefix.cs (Prefix.part ⟨⟨v6, hi, lo⟩, bits⟩ (bits + 1) false) else Prefix.cs .zero),
      .agg (if Prefix.halvesOk ⟨⟨v6, hi, lo⟩, bits⟩ then Prefix.cs (Prefix.part ⟨⟨v6, hi, lo⟩, bits⟩ (bits + 1) true) else Prefix.cs .zero), .bool (Prefix.halvesOk ⟨⟨v6, hi, lo⟩, bits⟩)]) := by
  refine VF.intro Tryz.func157 rfl ok157 (by simp [Tryz.f157]) ?_
  simp [go_sem, Tryz.f157]
  cases hp : Prefix.ok ⟨⟨v6, hi, lo⟩, bits⟩
  · have hn : ∀ m i, Prefix.partOk ⟨⟨v6, hi, lo⟩, bits⟩ m i = false := fun m i => by simp [Prefix.partOk, hp]
    refine callK_of (c158 v6 hi lo bits (IntKind.i64.wrap (bits + 1)) false) ?_
    simp [go_sem, hn]
    refine callK_if (r := .bool false) (fun h => by cases h) ?_
    simp [go_sem]
    simp [Prefix.halvesOk, hp, Prefix.zero, Addr.zero]
  · have hb : 0 ≤ bits ∧ bits ≤ long v6 := by simp [Prefix.ok] at hp; omega
    have hl : long v6 ≤ 128 ∧ 32 ≤ long v6 := by cases v6 <;> simp [long]
    have hok : ∀ i, Prefix.partOk ⟨⟨v6, hi, lo⟩, bits⟩ (bits + 1) i = Prefix.halvesOk ⟨⟨v6, hi, lo⟩, bits⟩ := fun i => by
      rw [Bool.eq_iff_iff]; simp [Prefix.partOk, Prefix.halvesOk, hp]; omega
    rw [i64w _ (by omega)]
    cases hh : Prefix.halvesOk ⟨⟨v6, hi, lo⟩, bits⟩
    · refine callK_of (c158 v6 hi lo bits (bits + 1) false) ?_
      simp [go_sem, hok, hh]
      refine callK_if (r := .bool false) (fun h => by cases h) ?_
      simp [go_sem]
    · refine callK_of (c158 v6 hi lo bits (bits + 1) false) ?_
      simp [go_sem, hok, hh]
      refine callK_of (c112 v6 hi lo bits) ?_
      simp [go_sem]
      refine ⟨hp, fun _ => ?_⟩
      rw [i64w _ (by omega)]
      refine callK_of (c158 v6 hi lo bits (bits + 1) true) ?_
      simp [go_sem, hok, hh]
      refine drawK_of (by kernel_rfl) ?_
      simp [go_sem]
theorem c170 (v6 : Bool) (hi lo bits : Int) : VF Tryz.prog 170 [.agg [.bool v6, .int .u64 hi, .int .u64 lo, .int .i64 bits]]
    (.tup [.agg (if Prefix.halvesOk ⟨⟨v6, hi, lo⟩, bits⟩ then Prefix.cs (Prefix.part ⟨⟨v6, hi, lo⟩, bits⟩ (bits + 1) false) else Prefix.cs .zero),
      .agg (if Prefix.halvesOk ⟨⟨v6, hi, lo⟩, bits⟩ then Prefix.cs (Prefix.part ⟨⟨v6, hi, lo⟩, bits⟩ (bits + 1) true) else Prefix.cs .zero), .bool (Prefix.halvesOk ⟨⟨v6, hi, lo⟩, bits⟩)]) := by
  refine VF.intro Tryz.func170 rfl ok170 (by simp [Tryz.f170]) ?_
  simp [go_sem, Tryz.f170]
  cases hp : Prefix.ok ⟨⟨v6, hi, lo⟩, bits⟩
  · have hn : ∀ m i, Prefix.partOk ⟨⟨v6, hi, lo⟩, bits⟩ m i = false := fun m i => by simp [Prefix.partOk, hp]
    refine callK_of (c171 v6 hi lo bits (IntKind.i64.wrap (bits + 1)) false) ?_
    simp [go_sem, hn]
    refine callK_of (c171 v6 hi lo bits (IntKind.i64.wrap (bits + 1)) true) ?_
    simp [go_sem, hn]
    simp [Prefix.halvesOk, hp, Prefix.zero, Addr.zero]
  · have hb : 0 ≤ bits ∧ bits ≤ long v6 := by simp [Prefix.ok] at hp; omega
    have hl : long v6 ≤ 128 ∧ 32 ≤ long v6 := by cases v6 <;> simp [long]
    have hok : ∀ i, Prefix.partOk ⟨⟨v6, hi, lo⟩, bits⟩ (bits + 1) i = Prefix.halvesOk ⟨⟨v6, hi, lo⟩, bits⟩ := fun i => by
      rw [Bool.eq_iff_iff]; simp [Prefix.partOk, Prefix.halvesOk, hp]; omega
    rw [i64w _ (by omega)]
    cases hh : Prefix.halvesOk ⟨⟨v6, hi, lo⟩, bits⟩
    · refine callK_of (c171 v6 hi lo bits (bits + 1) false) ?_
      simp [go_sem, hok, hh]
      rw [i64w _ (by omega)]
      refine callK_of (c171 v6 hi lo bits (bits + 1) true) ?_
      simp [go_sem, hok, hh]
    · refine callK_of (c171 v6 hi lo bits (bits + 1) false) ?_
      simp [go_sem, hok, hh]
      rw [i64w _ (by omega)]
      refine callK_of (c171 v6 hi lo bits (bits + 1) true) ?_
      simp [go_sem, hok, hh]
      refine drawK_of (by kernel_rfl) ?_
      simp [go_sem]
end Go.V
