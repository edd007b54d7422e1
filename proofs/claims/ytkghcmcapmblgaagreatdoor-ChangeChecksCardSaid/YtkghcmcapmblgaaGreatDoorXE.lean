/- A part of the proof, merged out of smaller texts. Nothing is assumed. -/
import Derived.Test.YtkghcmcapmblgaaGreatDoorXK
import Derived.Test.YtkghcmcapmblgaaGreatDoorXG
import Derived.Test.YtkghcmcapmblgaaGreatDoorXL
set_option linter.all false
/- Names: labels. Nothing is assumed. -/
set_option linter.unusedVariables false
set_option linter.unusedSimpArgs false
set_option maxRecDepth 20000
set_option pp.deepTerms false
namespace Go.V
open Go.Proofs

theorem all_drop {s : Str} {i : Nat} {c : UInt8} (p : UInt8 → Bool) (h : s[i]? = some c) : (s.drop i).all p = (p c && (s.drop (i + 1)).all p) := by
  obtain ⟨h1, h2⟩ := List.getElem?_eq_some_iff.1 h
  rw [List.drop_eq_getElem_cons h1, h2, List.all_cons]
theorem c123 (s : Str) : VF Tryz.prog 123 [.str s] (.bool (isLabel s)) := by
  refine VF.intro Tryz.func123 rfl ok123 (by simp [Tryz.f123]) ?_
  simp [go_sem, Tryz.f123]
  refine ⟨fun h => by simp [isLabel, h], fun hs => ⟨fun h => ?_, fun h1 h2 => ?_⟩⟩
  · have : ordinary s = false := by
      rw [Bool.eq_false_iff]; intro hp; simp [ordinary] at hp; omega
    simp [isLabel, hs, this]
  refine VW_forQ (fun i : Nat => i ≤ s.length ∧ isLabel s = (s.drop i).all ordC) (fun i => s.length - i) (fun i => [(0, .str s), (3, .int .i64 i)]) (fun _ => []) 0 [] ?_ ?_ ?_
  · have a : 1 ≤ s.length := by omega
    have b : s.length ≤ 63 := by omega
    simp [isLabel, hs, ordinary, a, b]
  · simp [go_sem]
  intro i hi
  simp [go_sem]
  refine ⟨fun hlt => ?_, fun hge => ?_⟩
  · obtain ⟨c, e⟩ : ∃ c, s[i]? = some c := ⟨_, List.getElem?_eq_getElem hlt⟩
    have hd := all_drop ordC e
    rw [e]
    simp [go_sem]
    refine ⟨by omega, by omega, by omega, by omega, fun h1 h2 h3 h4 => ?_, fun h1 => ?_⟩
    · rw [hi.2, hd]; simp [ordC]; omega
    · refine backK_of (i + 1) [] ⟨⟨by omega, ?_⟩, by omega, ?_⟩
      · have : ordC c = true := by simp [ordC]; omega
        rw [hi.2, hd, this]; rfl
      · simp [go_sem]; rw [i64w _ (by omega)]
  · rw [hi.2, List.drop_eq_nil_of_le hge]; rfl
theorem c90 (s : Str) : VF Tryz.prog 90 [.str s] (.bool (ordinary s)) := by
  refine VF.intro Tryz.func90 rfl ok90 (by simp [Tryz.f90]) ?_
  simp [go_sem, Tryz.f90]
  refine ⟨fun h => ?_, fun h1 h2 => ?_⟩
  · rw [Bool.eq_false_iff]; intro hp; simp [ordinary] at hp
    rcases h with h | h
    · subst h; simp at hp
    · omega
  have h0 : 1 ≤ s.length := by cases s with | nil => exact absurd rfl h1 | cons _ _ => simp
  refine VW_forQ (fun i : Nat => i ≤ s.length ∧ ordinary s = (s.drop i).all ordC) (fun i => s.length - i) (fun i => [(0, .str s), (13, .int .i64 s.length), (14, .int .i64 i)]) (fun _ => []) 0 [] ?_ ?_ ?_
  · have b : s.length ≤ 63 := by omega
    simp [ordinary, h0, b]
  · simp [go_sem]
  intro i hi
  simp [go_sem]
  refine ⟨fun hlt => ?_, fun hge => ?_⟩
  · obtain ⟨c, e⟩ : ∃ c, s[i]? = some c := ⟨_, List.getElem?_eq_getElem hlt⟩
    have hd := all_drop ordC e
    rw [e]
    simp [go_sem]
    refine ⟨by omega, fun h1 h2 h3 h4 => ?_, fun h1 => ?_⟩
    · rw [hi.2, hd]; simp [ordC]; omega
    · refine backK_of (i + 1) [] ⟨⟨by omega, ?_⟩, by omega, ?_⟩
      · have : ordC c = true := by simp [ordC]; omega
        rw [hi.2, hd, this]; rfl
      · simp [go_sem]; rw [i64w _ (by omega)]
  · rw [hi.2, List.drop_eq_nil_of_le hge]; rfl
theorem labelsOk_app {a b : List Str} (h : labelsOk a = false) : labelsOk (a ++ b) = false := by
  cases a with
  | nil => cases h
  | cons x r =>
    rw [Bool.eq_false_iff] at h ⊢
    intro hh
    simp only [labelsOk, List.cons_append, List.all_append, Bool.and_eq_true] at hh
    exact h (by simp only [labelsOk, Bool.and_eq_true]; exact ⟨hh.1, hh.2.1⟩)
theorem c70 (n : Str) (hb : n.length ≤ 4611686018427387904) : VF Tryz.prog 70 [.str n] (.tup [.sl ((labelsOf n).map fun l => [.str l]), .bool (nameOk n)]) := by
  by_cases h0 : n = [46]
  · subst h0
    refine VF.intro Tryz.func70 rfl ok70 (by simp [Tryz.f70]) ?_
    simp [go_sem, Tryz.f70]
    exact ⟨rfl, rfl⟩
  have r1 : n.length - 1 + 1 = n.length ∨ n = [] := by cases n <;> simp
  by_cases hr : 2 ≤ n.length ∧ n.length ≤ 254
  · have w1 : IntKind.i64.wrap ((n.length : Int) - 1) = (n.length : Int) - 1 := i64w _ (by omega)
    have w2 : ((n.length : Int) - 1).toNat = n.length - 1 := by omega
    have h1 : ¬ ((n.length : Int) < 2) := by omega
    have h2 : ¬ (254 < (n.length : Int)) := by omega
    have h3 : (0 : Int) ≤ (n.length : Int) - 1 := by omega
    obtain ⟨c, e⟩ : ∃ c, n[n.length - 1]? = some c := ⟨_, List.getElem?_eq_getElem (by omega)⟩
    refine VF.intro Tryz.func70 rfl ok70 (by simp [Tryz.f70]) ?_
    simp [go_sem, Tryz.f70, h0, h1, h2, w1, w2, h3, e]
    have hlast : n.getLast? = some c := by rw [List.getLast?_eq_getElem?, e]
    refine ⟨by omega, fun hc => ?_, fun hc => ?_⟩
    · have hf : nameOk n = false := by
        rw [Bool.eq_false_iff]; intro h
        have := nameOk_last h
        rw [hlast] at this; cases this; exact hc rfl
      simp [labelsOf, h0, hf]
    have hn : nameOk n = labelsOk (cutsA [] n) := by
      have : c = 46 := by apply UInt8.toNat_inj.1; simp; omega
      subst this
      simp [nameOk, h0, hr, hlast]
    have hl : labelsOf n = if labelsOk (cutsA [] n) then cutsA [] n else [] := by simp [labelsOf, h0, hn]
    rw [hl, hn]
    refine VW_forQ (ι := List Str × Nat × Nat) (fun x => x.2.1 ≤ x.2.2 ∧ x.2.2 ≤ n.length ∧ x.1.length ≤ x.2.2 ∧ cutsA [] n = x.1 ++ cutsA ((n.take x.2.2).drop x.2.1) (n.drop x.2.2) ∧ (x.2.1 = 0 ↔ x.1 = []) ∧ labelsOk x.1 = true) (fun x => n.length - x.2.2)
      (fun x => [(0, .str n), (4, .ref 1 1 0 x.1.length), (5, .int .i64 x.2.1), (6, .int .i64 x.2.2)]) (fun x => [(1, .row 9 1 (x.1.map fun l => [.str l]) true)]) ([], 0, 0) [none] ?_ ?_ ?_
    · simp [labelsOk]
    · simp [go_sem, and_assoc]
    rintro ⟨done, start, i⟩ ⟨a1, a2, a3, a4, a5, a6⟩
    simp only at a1 a2 a3 a4 a5 a6
    simp [go_sem]
    refine ⟨fun hlt => ?_, fun hge => ?_⟩
    · obtain ⟨b, eb⟩ : ∃ b, n[i]? = some b := ⟨_, List.getElem?_eq_getElem hlt⟩
      rw [eb]
      simp [go_sem]
      have hdr : n.drop i = b :: n.drop (i + 1) := by
        obtain ⟨q1, q2⟩ := List.getElem?_eq_some_iff.1 eb
        rw [List.drop_eq_getElem_cons q1, q2]
      have htk : (n.take (i + 1)).drop start = (n.take i).drop start ++ [b] := by
        obtain ⟨q1, q2⟩ := List.getElem?_eq_some_iff.1 eb
        rw [List.take_succ_eq_append_getElem q1, List.drop_append_of_le_length (by simp; omega), q2]
      refine ⟨fun hb1 => ?_, fun hb1 => ?_⟩
      · refine backK_of (done, start, i + 1) [some 1] ⟨⟨by dsimp only; omega, by dsimp only; omega, by dsimp only; omega, ?_, a5, a6⟩, by dsimp only; omega, ?_⟩
        · have : ¬ b = 46 := by intro e; subst e; simp at hb1
          rw [a4, hdr, htk, cutsA, if_neg this]
        · simp [go_sem, and_assoc]; rw [i64w _ (by omega)]
      · have hb2 : b = 46 := by apply UInt8.toNat_inj.1; simp; omega
        subst hb2
        have a4' : cutsA [] n = (done ++ [(n.take i).drop start]) ++ cutsA [] (n.drop (i + 1)) := by rw [a4, hdr, cutsA, if_pos rfl]; simp
        refine ⟨⟨by omega, by omega⟩, ?_⟩
        generalize hx : (n.take i).drop start = x at *
        refine callK_of (c123 x) ?_
        simp [go_sem]
        have hlo : labelsOk (done ++ [x]) = (isLabel x && !(x == [42] && decide (0 < start))) := by
          by_cases hd : done = []
          · subst hd
            have : start = 0 := a5.2 rfl
            subst this
            simp [labelsOk, isLabel]
          · have hs0 : 0 < start := by have : ¬ start = 0 := fun e => hd (a5.1 e); omega
            have h6 : labelsOk (done ++ [x]) = ordinary x := by
              cases done with
              | nil => exact absurd rfl hd
              | cons y r => simp only [labelsOk, Bool.and_eq_true] at a6; simp [labelsOk, a6.1, a6.2]
            rw [h6]
            by_cases hx2 : x = [42]
            · subst hx2; simp [ord_star, hs0]
            · have hx3 : (x == [42]) = false := by simpa using hx2
              simp [isLabel, hx3]
        refine ⟨fun h => ⟨h, fun h2 => ⟨h, h2⟩⟩, fun h => ?_, fun h5 h6 => ⟨by omega, backK_of (done ++ [x], i + 1, i + 1) [some 15003] ⟨⟨by dsimp only; omega, by dsimp only; omega, by simp; omega, ?_, by simp, ?_⟩, by dsimp only; omega, ?_⟩⟩⟩
        · have hf : labelsOk (cutsA [] n) = false := by
            have : labelsOk (done ++ [x]) = false := by
              rw [hlo]
              rcases h with h | h
              · rw [h]; rfl
              · simp [h.1, h.2]
            rw [a4']
            exact labelsOk_app this
          simp [hf]
        · simpa using a4'
        · rw [hlo]; simp [h5]; exact (Decidable.em (x = [42])).elim (fun e => .inr (h6 e)) .inl
        · simp [go_sem, and_assoc]
          rw [i64w _ (by omega)]
    · have e1 : n.drop i = [] := List.drop_eq_nil_of_le hge
      rw [e1] at a4
      simp only [cutsA, List.append_nil] at a4
      rw [a4, a6]
      simp [Function.comp_def, go_sem, List.take_of_length_le]
  · have hf : nameOk n = false := by
      rw [Bool.eq_false_iff]; intro h
      simp [nameOk, h0] at h; omega
    have hl : labelsOf n = [] := by simp [labelsOf, h0, hf]
    rw [hf, hl]
    by_cases hs : n.length < 2
    · have h1 : ((n.length : Int) < 2) := by omega
      refine VF.intro Tryz.func70 rfl ok70 (by simp [Tryz.f70]) ?_
      simp [go_sem, Tryz.f70, h0, h1]
    · have h1 : ¬ ((n.length : Int) < 2) := by omega
      have h2 : (254 < (n.length : Int)) := by omega
      refine VF.intro Tryz.func70 rfl ok70 (by simp [Tryz.f70]) ?_
      simp [go_sem, Tryz.f70, h0, h1, h2]
end Go.V
/- Names: validity, order, ancestors. Nothing is assumed. -/
set_option linter.unusedVariables false
set_option linter.unusedSimpArgs false
set_option maxRecDepth 20000
set_option pp.deepTerms false
namespace Go.V
open Go.Proofs

/-- Names as they come: no longer than memory is. -/
abbrev fits (n : Str) : Prop := n.length ≤ 4611686018427387904
abbrev strs (l : List Str) : List (List PV) := l.map fun x => [.str x]
theorem c24 (n : Str) (h : fits n) : VF Tryz.prog 24 [.str n] (.bool (nameOk n)) := by
  refine VF.intro Tryz.func24 rfl ok24 (by simp [Tryz.f24]) ?_
  simp [go_sem, Tryz.f24]
  refine callK_of (c70 n h) ?_
  simp [go_sem]
theorem c122 (n : Str) (h : fits n) : VF Tryz.prog 122 [.str n] (.sl (strs (labelsOf n))) := by
  refine VF.intro Tryz.func122 rfl ok122 (by simp [Tryz.f122]) ?_
  simp [go_sem, Tryz.f122]
  refine callK_of (c70 n h) ?_
  simp [go_sem]
theorem c71 (a b : Str) : VF Tryz.prog 71 [.str a, .str b] (.int .i64 (Go.Lib.compareBytes a b)) := by
  refine VF.intro Tryz.func71 rfl ok71 (by simp [Tryz.f71]) ?_
  simp [go_sem, Tryz.f71]
  have he := cmpB_eq a b
  rw [cmpB_less] at he ⊢
  cases h1 : Op.bytesLess a b <;> cases h2 : Op.bytesLess b a <;> simp [h1, h2] at he ⊢ <;> simp [he]
theorem c72 (a b : List Str) (ha : a.length ≤ 254) (hb : b.length ≤ 254) : VF Tryz.prog 72 [.sl (strs a), .sl (strs b)] (.int .i64 (common a.reverse b.reverse)) := by
  refine VF.intro Tryz.func72 rfl ok72 (by simp [Tryz.f72]) ?_
  simp [go_sem, Tryz.f72]
  refine VW_forQ (fun k : Nat => k ≤ common a.reverse b.reverse) (fun k => a.length - k) (fun k => [(0, .sl (strs a)), (1, .sl (strs b)), (5, .int .i64 k)]) (fun _ => []) 0 [] (Nat.zero_le _) (by simp [go_sem]) ?_
  intro k hk
  have hc := common_le a.reverse b.reverse
  simp only [List.length_reverse] at hc
  by_cases hr : k < a.length ∧ k < b.length
  · have e1 : IntKind.i64.wrap (IntKind.i64.wrap ((a.length : Int) - 1) - k) = ((a.length - 1 - k : Nat) : Int) := by rw [i64w (_ - 1) (by omega), i64w _ (by omega)]; omega
    have e2 : IntKind.i64.wrap (IntKind.i64.wrap ((b.length : Int) - 1) - k) = ((b.length - 1 - k : Nat) : Int) := by rw [i64w (_ - 1) (by omega), i64w _ (by omega)]; omega
    obtain ⟨x, hx⟩ : ∃ x, a[a.length - 1 - k]? = some x := ⟨_, List.getElem?_eq_getElem (by omega)⟩
    obtain ⟨y, hy⟩ : ∃ y, b[b.length - 1 - k]? = some y := ⟨_, List.getElem?_eq_getElem (by omega)⟩
    simp [go_sem, hr.1, hr.2, e1, e2, hx, hy]
    refine drawK_of (by kernel_rfl) ?_
    simp [go_sem]
    have rx : a.reverse[k]? = some x := by rw [List.getElem?_reverse (by omega), hx]
    have ry : b.reverse[k]? = some y := by rw [List.getElem?_reverse (by omega), hy]
    have hh := common_head rx ry
    have hst := common_step _ _ k hk
    refine ⟨fun h => ?_, fun h => ?_⟩
    · rw [if_pos h] at hh
      refine backK_of (k + 1) [] ⟨by omega, by omega, ?_⟩
      simp [go_sem]; rw [i64w _ (by omega)]
    · rw [if_neg h] at hh; omega
  · have hst := common_step _ _ k hk
    rw [common_end (by simp; omega)] at hst
    by_cases h1 : k < a.length
    · have h2 : ¬ k < b.length := by omega
      simp [go_sem, h1, h2]
      refine drawK_of (by kernel_rfl) ?_
      simp [go_sem]
      omega
    · simp [go_sem, h1]
      refine drawK_of (by kernel_rfl) ?_
      simp [go_sem]
      omega
theorem c35 (n : Str) (h : fits n) : VF Tryz.prog 35 [.str n] (.bool (nameOk n)) := by
  refine VF.intro Tryz.func35 rfl ok35 (by simp [Tryz.f35]) ?_
  simp [go_sem, Tryz.f35]
  refine ⟨fun h => by subst h; rfl, fun h0 => ?_⟩
  refine callK_if (fun hg => c88 n [46] (by omega)) ?_
  simp [go_sem]
  rw [hasSuffix_one]
  refine ⟨fun h => ?_, fun h1 h2 => ?_⟩
  · rw [Bool.eq_false_iff]; intro hp
    have := nameOk_last hp; have := nameOk_len hp
    rcases h with h | h
    · omega
    · simp_all
  have hl : n.getLast? = some 46 := by simpa using h2
  obtain ⟨m, rfl⟩ := List.getLast?_eq_some_iff.1 hl
  simp at h1
  have e1 : IntKind.i64.wrap (((m ++ [46]).length : Int) - 1) = m.length := by rw [i64w _ (by simp; omega)]; simp
  rw [e1]
  simp
  refine ⟨by omega, ?_⟩
  refine callK_of (c89 m (by omega)) ?_
  simp [go_sem]
  have hm : 1 ≤ m.length := by cases m with | nil => exact absurd rfl h0 | cons _ _ => simp
  have hn : nameOk (m ++ [46]) = labelsOk (piecesA [] m) := by
    have h254 : m.length ≤ 253 := by omega
    have h0' : m ≠ [] := by intro e; subst e; simp at hm
    simp [nameOk, h0', hm, h254, cutsA_dot]
  rw [hn]
  generalize hL : piecesA [] m = L
  have hLb : L.length ≤ 300 := by
    have := cutsA_len (m ++ [46]) []
    rw [cutsA_dot, hL] at this; simp at this; omega
  refine VW_forQ (fun i : Nat => i ≤ L.length ∧ ∀ (j : Nat) (x : Str), j < i → L[j]? = some x → ordinary x = true ∨ (j = 0 ∧ x = [42])) (fun i => L.length - i) (fun i => [(20, .sl (strs L)), (21, .int .i64 L.length), (22, .int .i64 i)]) (fun _ => []) 0 [] (by simp) (by simp [go_sem]) ?_
  intro i hi
  simp [go_sem]
  refine ⟨fun hlt => ?_, fun hge => ?_⟩
  · obtain ⟨x, e⟩ : ∃ x, L[i]? = some x := ⟨_, List.getElem?_eq_getElem hlt⟩
    rw [e]
    simp [go_sem]
    refine callK_of (c90 x) ?_
    simp [go_sem]
    refine ⟨fun h => ⟨h, fun h3 => ⟨h, h3⟩⟩, fun h3 h4 => ?_, fun h3 => backK_of (i + 1) [] ⟨⟨by omega, fun j y hj hy => ?_⟩, by omega, ?_⟩⟩
    · rw [Bool.eq_false_iff]; intro hp
      rcases labelsOk_iff.1 hp i x e with h5 | h5
      · rw [h3] at h5; cases h5
      · rcases h4 with h4 | h4
        · omega
        · exact h4 h5.2
    · rcases Nat.lt_or_ge j i with h5 | h5
      · exact hi.2 j y h5 hy
      · obtain rfl : j = i := by omega
        rw [e] at hy; cases hy
        cases ho : ordinary x
        · exact .inr (h3 ho)
        · exact .inl rfl
    · simp [go_sem]; rw [i64w _ (by omega)]
  · exact labelsOk_iff.2 fun j x hx => hi.2 j x (by have := (List.getElem?_eq_some_iff.1 hx).1; omega) hx
theorem c92 (n : Str) (h : fits n) : VF Tryz.prog 92 [.str n] (.sl (strs (labelsOf n))) := by
  refine VF.intro Tryz.func92 rfl ok92 (by simp [Tryz.f92]) ?_
  simp [go_sem, Tryz.f92]
  refine callK_if (fun hg => c35 n h) ?_
  simp [go_sem]
  refine ⟨fun h => ?_, fun h1 h2 => ?_⟩
  · have : labelsOf n = [] := by
      rcases h with h | h <;> simp [labelsOf, h]
    rw [this]
  have hl := nameOk_len h2
  obtain ⟨m, rfl⟩ := List.getLast?_eq_some_iff.1 (nameOk_last h2)
  have e1 : IntKind.i64.wrap (((m ++ [46]).length : Int) - 1) = m.length := by rw [i64w _ (by simp at hl ⊢; omega)]; simp
  rw [e1]
  simp
  refine ⟨by omega, ?_⟩
  have h300 : m.length ≤ 253 := by simp at hl; omega
  refine callK_of (c89 m (by omega)) ?_
  simp [go_sem]
  rw [labelsOf_cuts h2 h1, cutsA_dot]
theorem labCmp_drop {a b : List Str} {x y : Str} {k : Nat} (ha : a[k]? = some x) (hb : b[k]? = some y) : labCmp (a.drop k) (b.drop k) = if Go.Lib.compareBytes x y = 0 then labCmp (a.drop (k + 1)) (b.drop (k + 1)) else Go.Lib.compareBytes x y := by
  obtain ⟨h1, e1⟩ := List.getElem?_eq_some_iff.1 ha
  obtain ⟨h2, e2⟩ := List.getElem?_eq_some_iff.1 hb
  rw [List.drop_eq_getElem_cons h1, List.drop_eq_getElem_cons h2, e1, e2]
  rfl
theorem labCmp_stop {a b : List Str} {k : Nat} (h : ¬(k < a.length ∧ k < b.length)) (h2 : k ≤ a.length ∧ k ≤ b.length) : labCmp (a.drop k) (b.drop k) = if a.length < b.length then -1 else if b.length < a.length then 1 else 0 := by
  by_cases h3 : k < a.length
  · have e1 : b.drop k = [] := List.drop_eq_nil_of_le (by omega)
    rw [e1, List.drop_eq_getElem_cons h3, if_neg (by omega), if_pos (by omega)]; rfl
  · have e1 : a.drop k = [] := List.drop_eq_nil_of_le (by omega)
    by_cases h4 : k < b.length
    · rw [e1, List.drop_eq_getElem_cons h4, if_pos (by omega)]; rfl
    · have e2 : b.drop k = [] := List.drop_eq_nil_of_le (by omega)
      rw [e1, e2, if_neg (by omega), if_neg (by omega)]; rfl
theorem c36 (a b : Str) (ha : fits a) (hb : fits b) : VF Tryz.prog 36 [.str a, .str b] (.int .i64 (nameCmp a b)) := by
  refine VF.intro Tryz.func36 rfl ok36 (by simp [Tryz.f36]) ?_
  simp [go_sem, Tryz.f36]
  refine callK_of (c35 a ha) ?_
  simp [go_sem]
  refine callK_of (c35 b hb) ?_
  simp [go_sem]
  cases h1 : nameOk a <;> cases h2 : nameOk b <;> simp [h1, h2]
  · rw [show nameCmp a b = Go.Lib.compareBytes a b by simp [nameCmp, h1, h2]]
    refine callK_of (c91 a b) ?_
    simp [go_sem]
  · simp [nameCmp, h1, h2]
  · simp [nameCmp, h1, h2]
  · rw [show nameCmp a b = labCmp (labelsOf a).reverse (labelsOf b).reverse by simp [nameCmp, h1, h2]]
    refine callK_of (c92 a ha) ?_
    simp [go_sem]
    refine callK_of (c92 b hb) ?_
    simp [go_sem]
    have la := labels_len a
    have lb := labels_len b
    generalize hA : labelsOf a = A at *
    generalize hB : labelsOf b = B at *
    refine VW_forQ (fun k : Nat => k ≤ A.length ∧ k ≤ B.length ∧ labCmp A.reverse B.reverse = labCmp (A.reverse.drop k) (B.reverse.drop k)) (fun k => A.length - k) (fun k => [(7, .sl (strs A)), (8, .sl (strs B)), (9, .int .i64 (k + 1))]) (fun _ => []) 0 [] (by simp) (by simp [go_sem]) ?_
    rintro k ⟨k1, k2, k3⟩
    by_cases hr : k < A.length ∧ k < B.length
    · have hr1 : (k : Int) + 1 ≤ A.length := by omega
      have hr2 : (k : Int) + 1 ≤ B.length := by omega
      simp [go_sem, hr1, hr2]
      have e1 : IntKind.i64.wrap ((A.length : Int) - (k + 1)) = ((A.length - 1 - k : Nat) : Int) := by rw [i64w _ (by omega)]; omega
      have e2 : IntKind.i64.wrap ((B.length : Int) - (k + 1)) = ((B.length - 1 - k : Nat) : Int) := by rw [i64w _ (by omega)]; omega
      obtain ⟨x, hx⟩ : ∃ x, A[A.length - 1 - k]? = some x := ⟨_, List.getElem?_eq_getElem (by omega)⟩
      obtain ⟨y, hy⟩ : ∃ y, B[B.length - 1 - k]? = some y := ⟨_, List.getElem?_eq_getElem (by omega)⟩
      have rx : A.reverse[k]? = some x := by rw [List.getElem?_reverse (by omega), hx]
      have ry : B.reverse[k]? = some y := by rw [List.getElem?_reverse (by omega), hy]
      simp [go_sem, e1, e2, hx, hy]
      refine callK_of (c91 x y) ?_
      simp [go_sem]
      refine drawK_of (by kernel_rfl) ?_
      simp [go_sem]
      rw [k3, labCmp_drop rx ry]
      refine ⟨fun h => by rw [if_neg h], fun h => ?_⟩
      refine backK_of (k + 1) [] ⟨⟨by omega, by omega, by rw [if_pos h]⟩, by omega, ?_⟩
      simp [go_sem]; rw [i64w _ (by omega)]
    · rw [k3, labCmp_stop (by simpa using hr) (by simpa using ⟨k1, k2⟩)]
      by_cases hr1 : (k : Int) + 1 ≤ A.length
      · have hr2 : ¬ (k : Int) + 1 ≤ B.length := by omega
        simp [go_sem, hr1, hr2]
        (repeat' (first | intro _ | constructor)) <;> (repeat' split) <;> omega
      · simp [go_sem, hr1]
        (repeat' (first | intro _ | constructor)) <;> (repeat' split) <;> omega
theorem c25 (a b : Str) (ha : fits a) (hb : fits b) : VF Tryz.prog 25 [.str a, .str b] (.int .i64 (nameCmp a b)) := by
  refine VF.intro Tryz.func25 rfl ok25 (by simp [Tryz.f25]) ?_
  simp [go_sem, Tryz.f25]
  refine callK_of (c70 a ha) ?_
  simp [go_sem]
  refine callK_of (c70 b hb) ?_
  simp [go_sem]
  cases h1 : nameOk a <;> cases h2 : nameOk b <;> simp [h1, h2]
  · rw [show nameCmp a b = Go.Lib.compareBytes a b by simp [nameCmp, h1, h2]]
    refine callK_of (c71 a b) ?_
    simp [go_sem]
  · simp [nameCmp, h1, h2]
  · simp [nameCmp, h1, h2]
  · rw [show nameCmp a b = labCmp (labelsOf a).reverse (labelsOf b).reverse by simp [nameCmp, h1, h2]]
    have la := labels_len a
    have lb := labels_len b
    generalize hA : labelsOf a = A at *
    generalize hB : labelsOf b = B at *
    have hc := common_le A.reverse B.reverse
    simp only [List.length_reverse] at hc
    have hL := labCmp_common A.reverse B.reverse
    by_cases hr : common A.reverse B.reverse < A.length ∧ common A.reverse B.reverse < B.length
    · rw [dif_pos (by simpa using hr)] at hL
      rw [hL]
      refine callK_of (c72 A B la lb) ?_
      generalize hk : common A.reverse B.reverse = k at *
      have e1 : IntKind.i64.wrap (IntKind.i64.wrap ((A.length : Int) - 1) - k) = ((A.length - 1 - k : Nat) : Int) := by rw [i64w (_ - 1) (by omega), i64w _ (by omega)]; omega
      have e2 : IntKind.i64.wrap (IntKind.i64.wrap ((B.length : Int) - 1) - k) = ((B.length - 1 - k : Nat) : Int) := by rw [i64w (_ - 1) (by omega), i64w _ (by omega)]; omega
      have gx : A[A.length - 1 - k]? = some (A.reverse[k]'(by simp; omega)) := by rw [List.getElem_reverse]; exact List.getElem?_eq_getElem (by omega)
      have gy : B[B.length - 1 - k]? = some (B.reverse[k]'(by simp; omega)) := by rw [List.getElem_reverse]; exact List.getElem?_eq_getElem (by omega)
      simp [go_sem, e1, e2, gx, gy, hr.1, hr.2]
      refine callK_of (c71 _ _) ?_
      simp [go_sem]
      refine drawK_of (by kernel_rfl) ?_
      simp [go_sem]
    · rw [dif_neg (by simpa using hr)] at hL
      simp only [List.length_reverse] at hL
      rw [hL]
      refine callK_of (c72 A B la lb) ?_
      generalize hk : common A.reverse B.reverse = k at *
      by_cases hr1 : k < A.length
      · have hr2 : ¬ k < B.length := by omega
        simp [go_sem, hr1, hr2]
        (repeat' (first | intro _ | constructor)) <;> (repeat' split) <;> omega
      · simp [go_sem, hr1]
        (repeat' (first | intro _ | constructor)) <;> (repeat' split) <;> omega
theorem c74 (a b : Str) (ha : fits a) (hb : fits b) : VF Tryz.prog 74 [.str a, .str b] (.bool (under a b)) := by
  refine VF.intro Tryz.func74 rfl ok74 (by simp [Tryz.f74]) ?_
  simp [go_sem, Tryz.f74]
  refine callK_of (c70 a ha) ?_
  simp [go_sem]
  refine callK_of (c70 b hb) ?_
  simp [go_sem]
  refine callK_if (fun hg => c72 (labelsOf a) (labelsOf b) (labels_len a) (labels_len b)) ?_
  simp [go_sem]
  rw [Bool.eq_iff_iff]
  simp [under]
  intro _ _; omega
theorem c145 (a b : Str) (ha : nameOk a = true) (hb : nameOk b = true) : VF Tryz.prog 145 [.str a, .str b] (.bool (under a b)) := by
  refine VF.intro Tryz.func145 rfl ok145 (by simp [Tryz.f145]) ?_
  simp [go_sem, Tryz.f145]
  have la := nameOk_len ha
  have lb := nameOk_len hb
  rw [if_pos (by omega)]
  simp [go_sem]
  refine callK_if (fun hg => c88 a (46 :: b) (by omega)) ?_
  simp [go_sem]
  rw [under_ends ha hb]
  rw [Bool.eq_iff_iff]
  simp [Go.Lib.hasSuffix]
theorem c96 (a b : Str) (ha : fits a) (hb : fits b) : VF Tryz.prog 96 [.str a, .str b] (.bool (under a b)) := by
  refine VF.intro Tryz.func96 rfl ok96 (by simp [Tryz.f96]) ?_
  simp [go_sem, Tryz.f96]
  refine callK_of (c35 a ha) ?_
  simp [go_sem]
  refine callK_if (fun hg => c35 b hb) ?_
  simp [go_sem]
  refine callK_if (fun hg => c145 a b (by simp at hg; exact hg.1) (by simp at hg; exact hg.2)) ?_
  simp [go_sem]
  intro h; simp [under] at h; exact h.1
end Go.V
/- Blocks. Nothing is assumed. -/
set_option linter.unusedVariables false
set_option linter.unusedSimpArgs false
set_option maxRecDepth 20000
set_option pp.deepTerms false
namespace Go.V
open Go.Proofs

structure Block where (p : Prefix) (kind : Int) (name owner : Str) (til : Int)
deriving DecidableEq
@[go_sem] theorem Block.eta (b : Block) : Block.mk b.p b.kind b.name b.owner b.til = b := rfl
abbrev Block.cs (b : Block) : List PV := [.bool b.p.addr.v6, .int .u64 b.p.addr.hi, .int .u64 b.p.addr.lo, .int .i64 b.p.bits, .int .i64 b.kind, .str b.name, .str b.owner, .int .i64 b.til]
def Block.zero : Block := ⟨.zero, 0, [], [], 0⟩
@[simp, go_sem] theorem Block.zero_p : Block.zero.p = .zero := rfl
@[simp, go_sem] theorem Block.zero_kind : Block.zero.kind = 0 := rfl
@[simp, go_sem] theorem Block.zero_name : Block.zero.name = [] := rfl
@[simp, go_sem] theorem Block.zero_owner : Block.zero.owner = [] := rfl
@[simp, go_sem] theorem Block.zero_til : Block.zero.til = 0 := rfl
abbrev blks (l : List Block) : List (List PV) := l.map Block.cs

def visC (c : UInt8) : Bool := decide (33 ≤ c.toNat) && decide (c.toNat ≤ 126)
def vis (s : Str) : Bool := s.all visC
theorem vis_drop {s : Str} {i : Nat} {c : UInt8} (h : s[i]? = some c) : vis (s.drop i) = (visC c && vis (s.drop (i + 1))) := all_drop visC h
theorem vis_end {s : Str} {i : Nat} (h : s.length ≤ i) : vis (s.drop i) = true := by rw [List.drop_eq_nil_of_le h]; rfl
def Block.may (b : Block) : Bool :=
  decide (1 ≤ b.kind) && decide (b.kind ≤ 3) && !(b.kind == 3 && b.p.bits != long b.p.addr.v6) && (decide (1 ≤ b.name.length) && decide (b.name.length ≤ 63) && vis b.name) && (decide (b.owner.length ≤ 32) && vis b.owner) && (decide (0 ≤ b.til) && decide (b.til ≤ 4294967295))
def lies (p q : Prefix) : Bool := decide (q.bits < p.bits) && Prefix.within p q
/-- Whether a block may not lie in another one, in which it lies. -/
def barred (b o : Block) : Bool := lies b.p o.p && !(o.kind == 1 || (o.kind == 2 && b.kind == 3))
/-- Whether it may not, with the reference's words. -/
def barredR (b o : Block) : Bool := lies b.p o.p && (o.kind == 3 || (o.kind == 2 && b.kind != 3))

theorem c132 (v6 : Bool) (hi lo bits : Int) : VF Tryz.prog 132 [.agg [.bool v6, .int .u64 hi, .int .u64 lo, .int .i64 bits]] (.int .i64 (long v6)) := by
  refine VF.intro Tryz.func132 rfl ok132 (by simp [Tryz.f132]) ?_
  simp [go_sem, Tryz.f132, long]
theorem c118 (v6 : Bool) (hi lo bits : Int) : VF Tryz.prog 118 [.agg [.bool v6, .int .u64 hi, .int .u64 lo, .int .i64 bits]] (.int .i64 (long v6)) := by
  refine VF.intro Tryz.func118 rfl ok118 (by simp [Tryz.f118]) ?_
  simp [go_sem, Tryz.f118, long]
theorem c119 (s : Str) (h : fits s) : VF Tryz.prog 119 [.str s] (.bool (vis s)) := by
  refine VF.intro Tryz.func119 rfl ok119 (by simp [Tryz.f119]) ?_
  simp [go_sem, Tryz.f119]
  refine VW_forQ (fun i : Nat => i ≤ s.length ∧ vis s = vis (s.drop i)) (fun i => s.length - i) (fun i => [(0, .str s), (3, .int .i64 i)]) (fun _ => []) 0 [] (by simp) (by simp [go_sem]) ?_
  intro i hi
  by_cases hlt : i < s.length
  · obtain ⟨c, e⟩ : ∃ c, s[i]? = some c := ⟨_, List.getElem?_eq_getElem hlt⟩
    have hd := vis_drop e
    simp [go_sem, hlt, e, -getElem?_pos]
    refine ⟨fun h1 => ?_, fun h1 h2 => backK_of (i + 1) [] ⟨⟨by omega, ?_⟩, by omega, ?_⟩⟩
    · rw [hi.2, hd]; simp [visC]; omega
    · have : visC c = true := by simp [visC]; omega
      rw [hi.2, hd, this]; rfl
    · simp [go_sem]; rw [i64w _ (by omega)]
  · simp [go_sem, hlt]
    rw [hi.2, vis_end (by omega)]
theorem c133 (s : Str) (lo hi : Int) (h : fits s) : VF Tryz.prog 133 [.str s, .int .i64 lo, .int .i64 hi] (.bool (decide (lo ≤ s.length) && decide (s.length ≤ hi) && vis s)) := by
  refine VF.intro Tryz.func133 rfl ok133 (by simp [Tryz.f133]) ?_
  simp [go_sem, Tryz.f133]
  refine ⟨fun h => ?_, fun h1 h2 => ?_⟩
  · intro a b; omega
  rw [show (decide (lo ≤ (s.length : Int)) && decide ((s.length : Int) ≤ hi) && vis s) = vis s by simp [h1, h2]]
  refine VW_forQ (fun i : Nat => i ≤ s.length ∧ vis s = vis (s.drop i)) (fun i => s.length - i) (fun i => [(0, .str s), (19, .int .i64 s.length), (20, .int .i64 i)]) (fun _ => []) 0 [] (by simp) (by simp [go_sem]) ?_
  intro i hi
  by_cases hlt : i < s.length
  · obtain ⟨c, e⟩ : ∃ c, s[i]? = some c := ⟨_, List.getElem?_eq_getElem hlt⟩
    have hd := vis_drop e
    simp [go_sem, hlt, e, -getElem?_pos]
    refine ⟨fun h1 => ?_, fun h1 h2 => backK_of (i + 1) [] ⟨⟨by omega, ?_⟩, by omega, ?_⟩⟩
    · rw [hi.2, hd]; simp [visC]; omega
    · have : visC c = true := by simp [visC]; omega
      rw [hi.2, hd, this]; rfl
    · simp [go_sem]; rw [i64w _ (by omega)]
  · simp [go_sem, hlt]
    rw [hi.2, vis_end (by omega)]
theorem c136 (v6 : Bool) (hi lo bits : Int) (v6' : Bool) (hi' lo' bits' : Int) : VF Tryz.prog 136 [.agg [.bool v6, .int .u64 hi, .int .u64 lo, .int .i64 bits], .agg [.bool v6', .int .u64 hi', .int .u64 lo', .int .i64 bits']]
    (.bool (lies ⟨⟨v6, hi, lo⟩, bits⟩ ⟨⟨v6', hi', lo'⟩, bits'⟩)) := by
  refine VF.intro Tryz.func136 rfl ok136 (by simp [Tryz.f136]) ?_
  simp [go_sem, Tryz.f136]
  refine callK_if (fun hg => c108 v6 hi lo bits v6' hi' lo' bits') ?_
  simp [go_sem]
  rfl
theorem c121 (v6 : Bool) (hi lo bits : Int) (v6' : Bool) (hi' lo' bits' : Int) : VF Tryz.prog 121 [.agg [.bool v6, .int .u64 hi, .int .u64 lo, .int .i64 bits], .agg [.bool v6', .int .u64 hi', .int .u64 lo', .int .i64 bits']]
    (.bool (lies ⟨⟨v6, hi, lo⟩, bits⟩ ⟨⟨v6', hi', lo'⟩, bits'⟩)) := by
  refine VF.intro Tryz.func121 rfl ok121 (by simp [Tryz.f121]) ?_
  simp [go_sem, Tryz.f121]
  refine callK_of (c114 v6 hi lo bits v6' hi' lo' bits') ?_
  simp [go_sem]
  rw [Bool.and_comm]; rfl
theorem c137 (o b : Block) : VF Tryz.prog 137 [.agg o.cs, .agg b.cs] (.bool (o.kind == 1 || (o.kind == 2 && b.kind == 3))) := by
  refine VF.intro Tryz.func137 rfl ok137 (by simp [Tryz.f137]) ?_
  simp [go_sem, Tryz.f137]
  grind
theorem c66 (b o : Block) : VF Tryz.prog 66 [.agg b.cs, .agg o.cs] (.bool (barredR b o)) := by
  refine VF.intro Tryz.func66 rfl ok66 (by simp [Tryz.f66]) ?_
  simp [go_sem, Tryz.f66]
  refine callK_of (c121 _ _ _ _ _ _ _ _) ?_
  simp [go_sem]
  unfold barredR
  grind
theorem c64 (b : Block) (h1 : fits b.name) (h2 : fits b.owner) : VF Tryz.prog 64 [.agg b.cs] (.bool b.may) := by
  refine VF.intro Tryz.func64 rfl ok64 (by simp [Tryz.f64]) ?_
  simp [go_sem, Tryz.f64]
  refine callK_if (fun hg => c118 _ _ _ _) ?_
  simp [go_sem]
  refine ⟨by grind, ?_⟩
  refine drawK_of (by kernel_rfl) ?_
  simp [go_sem]
  refine ⟨fun h => ?_, fun k1 k2 k3 => ?_⟩
  · rw [Bool.eq_false_iff]; intro hp; simp [Block.may] at hp; grind
  refine callK_if (fun hg => c119 _ h1) ?_
  simp [go_sem]
  refine callK_if (fun hg => c119 _ h2) ?_
  simp [go_sem]
  have hk : (decide (1 ≤ b.kind) && decide (b.kind ≤ 3) && !(b.kind == 3 && b.p.bits != long b.p.addr.v6)) = true := by simp [k1, k2]; grind
  unfold Block.may
  rw [hk]
  grind
theorem c83 (b : Block) (h1 : fits b.name) (h2 : fits b.owner) : VF Tryz.prog 83 [.agg b.cs] (.int .i64 (if b.p.ok then if b.may then 0 else 1 else 3)) := by
  refine VF.intro Tryz.func83 rfl ok83 (by simp [Tryz.f83]) ?_
  simp [go_sem, Tryz.f83]
  cases hp : b.p.ok
  · refine callK_of (c112 _ _ _ _) ?_
    simp [go_sem, hp]
  refine callK_of (c112 _ _ _ _) ?_
  simp [go_sem, hp]
  refine callK_if (fun hg => c132 _ _ _ _) ?_
  simp [go_sem]
  refine ⟨by grind, ?_⟩
  refine drawK_of (by kernel_rfl) ?_
  simp [go_sem]
  refine ⟨fun h => ?_, fun k1 k2 k3 => ?_⟩
  · have : b.may = false := by
      rw [Bool.eq_false_iff]; intro hp; simp [Block.may] at hp; grind
    simp [this]
  have hk : (decide (1 ≤ b.kind) && decide (b.kind ≤ 3) && !(b.kind == 3 && b.p.bits != long b.p.addr.v6)) = true := by simp [k1, k2]; grind
  have hm : b.may = ((decide (1 ≤ b.name.length) && decide (b.name.length ≤ 63) && vis b.name) && (decide (b.owner.length ≤ 32) && vis b.owner) && (decide (0 ≤ b.til) && decide (b.til ≤ 4294967295))) := by
    unfold Block.may
    rw [hk]; rfl
  rw [hm]
  refine callK_of (c133 _ _ _ h1) ?_
  simp [go_sem]
  refine callK_if (fun hg => c133 _ _ _ h2) ?_
  simp [go_sem]
  grind
end Go.V
/- The order of addresses and prefixes. No program is in sight. Nothing is assumed. -/
set_option linter.unusedVariables false
set_option linter.unusedSimpArgs false
namespace Go.V

theorem Addr.eq_iff (a b : Addr) : a = b ↔ a.v6 = b.v6 ∧ a.hi = b.hi ∧ a.lo = b.lo := by
  obtain ⟨a1, a2, a3⟩ := a; obtain ⟨b1, b2, b3⟩ := b; simp
theorem cmpI_swap (a b : Int) : cmpI b a = - cmpI a b := by unfold cmpI; repeat' split; all_goals omega
theorem cmpI_zero (a b : Int) : cmpI a b = 0 ↔ a = b := by unfold cmpI; repeat' split; all_goals omega
theorem Addr.cmp_swap (a b : Addr) : b.cmp a = - a.cmp b := by
  unfold Addr.cmp cmpI
  obtain ⟨v, h, l⟩ := a; obtain ⟨v', h', l'⟩ := b
  cases v <;> cases v' <;> simp <;> by_cases e : h = h' <;> simp [e, eq_comm] <;> grind
theorem Addr.cmp_zero (a b : Addr) : a.cmp b = 0 ↔ a = b := by
  unfold Addr.cmp cmpI
  obtain ⟨v, h, l⟩ := a; obtain ⟨v', h', l'⟩ := b
  cases v <;> cases v' <;> simp <;> by_cases e : h = h' <;> simp [e] <;> grind
theorem Prefix.cmp_swap (a b : Prefix) : b.cmp a = - a.cmp b := by
  unfold Prefix.cmp
  rw [Addr.cmp_swap a.addr b.addr, cmpI_swap a.bits b.bits]
  by_cases h : a.addr.cmp b.addr = 0
  · simp [h]
  · have : ¬ (- a.addr.cmp b.addr = 0) := by omega
    simp [h, this]
theorem Prefix.cmp_zero (a b : Prefix) : a.cmp b = 0 ↔ a = b := by
  unfold Prefix.cmp
  obtain ⟨x, n⟩ := a; obtain ⟨y, m⟩ := b
  have h1 := Addr.cmp_zero x y
  have h2 := cmpI_zero n m
  by_cases h : x.cmp y = 0
  · simp only [h, bne_self_eq_false, Bool.false_eq_true, if_false, Prefix.mk.injEq, h2]
    simp [h1.1 h]
  · have hn : ¬ x = y := fun e => h (h1.2 e)
    simp [h, hn]
/-- The first fault. -/
def firstErr (f : Nat → Int) (n : Nat) : Int := match (List.range n).find? (fun i => f i != 0) with | some i => f i | none => 0
theorem firstErr_at {f : Nat → Int} {n i : Nat} (h : ∀ j, j < i → f j = 0) (hi : i < n) (hf : f i ≠ 0) : firstErr f n = f i := by
  unfold firstErr
  have : (List.range n).find? (fun i => f i != 0) = some i := by
    rw [List.find?_range_eq_some]
    refine ⟨by simpa using hf, by simpa using hi, fun j hj => by simp [h j hj]⟩
  rw [this]
theorem firstErr_none {f : Nat → Int} {n : Nat} (h : ∀ j, j < n → f j = 0) : firstErr f n = 0 := by
  unfold firstErr
  have : (List.range n).find? (fun i => f i != 0) = none := by
    rw [List.find?_range_eq_none]
    intro j hj; simp [h j hj]
  rw [this]
theorem firstErr_zero {f : Nat → Int} {n : Nat} : firstErr f n = 0 ↔ ∀ j, j < n → f j = 0 := by
  constructor
  · intro h j
    induction j using Nat.strongRecOn with
    | _ j ih =>
      intro hj
      rcases Classical.em (f j = 0) with h1 | h1
      · exact h1
      · rw [firstErr_at (fun k hk => ih k hk (by omega)) hj h1] at h; exact h
  · exact firstErr_none
end Go.V
/- Blocks: searches. Nothing is assumed. -/
set_option linter.unusedVariables false
set_option linter.unusedSimpArgs false
set_option maxRecDepth 20000
set_option pp.deepTerms false
namespace Go.V
open Go.Proofs

/-- The first place. -/
def findI {α : Type} (p : α → Bool) (l : List α) : Int := match l.findIdx? p with | some i => i | none => -1
theorem findI_drop {α : Type} {p : α → Bool} {l : List α} {i : Nat} (h : ∀ (j : Nat) (x : α), j < i → l[j]? = some x → p x = false) :
    (∀ x, l[i]? = some x → p x = true → findI p l = i) ∧ (l.length ≤ i → findI p l = -1) := by
  unfold findI
  constructor
  · intro x hx hp
    have : l.findIdx? p = some i := by
      rw [List.findIdx?_eq_some_iff_getElem]
      obtain ⟨h1, h2⟩ := List.getElem?_eq_some_iff.1 hx
      refine ⟨h1, by rw [h2, hp], fun j hj => ?_⟩
      rw [h j _ hj (List.getElem?_eq_getElem (by omega))]; simp
    rw [this]
  · intro hl
    have : l.findIdx? p = none := by
      rw [List.findIdx?_eq_none_iff]
      intro x hx
      obtain ⟨j, hj, e⟩ := List.mem_iff_getElem.1 hx
      exact h j x (by omega) (by rw [List.getElem?_eq_getElem hj, e])
    rw [this]
theorem findI_any {α : Type} (p : α → Bool) (l : List α) : decide (0 ≤ findI p l) = l.any p := by
  unfold findI
  cases h : l.findIdx? p with
  | none =>
    have := List.findIdx?_eq_none_iff.1 h
    simp; exact this
  | some i =>
    obtain ⟨h1, h2, _⟩ := List.findIdx?_eq_some_iff_getElem.1 h
    simp; exact ⟨_, List.getElem_mem h1, h2⟩
/-- What is handed along with a function is only read. -/
structure Ro (caps : List PV) : Prop where
  r4 : ∀ k, caps.map (roS 4 k) = caps
  r3 : ∀ k, caps.map (roS 3 k) = caps
  d4 : ∀ k, caps.flatMap (deS 4 k) = []
  d3 : ∀ k, caps.flatMap (deS 3 k) = []
  rn : ∀ K, caps.mapM (ren1 K) = some caps
theorem Ro.box (cs : List PV) (o : Nat) : Ro [.pro cs o] := ⟨fun k => by simp [go_sem], fun k => by simp [go_sem], fun k => by simp [go_sem], fun k => by simp [go_sem], fun K => by simp [go_sem]⟩
theorem Ro.nil : Ro [] := ⟨fun k => rfl, fun k => rfl, fun k => rfl, fun k => rfl, fun K => rfl⟩
theorem Ro.two (cs ds : List PV) (o q : Nat) : Ro [.pro cs o, .pro ds q] := ⟨fun k => by simp [go_sem], fun k => by simp [go_sem], fun k => by simp [go_sem], fun k => by simp [go_sem], fun K => by simp [go_sem]⟩
abbrev few {α : Type} (l : List α) : Prop := l.length ≤ 1048576

structure Host where (name : Str) (addr : Addr) (ttl : Int)
deriving DecidableEq
@[go_sem] theorem Host.eta (h : Host) : Host.mk h.name h.addr h.ttl = h := rfl
abbrev Host.cs (h : Host) : List PV := [.str h.name, .bool h.addr.v6, .int .u64 h.addr.hi, .int .u64 h.addr.lo, .int .i64 h.ttl]
def Host.zero : Host := ⟨[], .zero, 0⟩
@[simp, go_sem] theorem Host.zero_name : Host.zero.name = [] := rfl
@[simp, go_sem] theorem Host.zero_addr : Host.zero.addr = .zero := rfl
@[simp, go_sem] theorem Host.zero_ttl : Host.zero.ttl = 0 := rfl
abbrev hsts (l : List Host) : List (List PV) := l.map Host.cs
@[go_sem] theorem szAll_blks (l : List Block) : szAll (l.map Block.cs) 8 = true := by simp [szAll]
@[go_sem] theorem szAll_hsts (l : List Host) : szAll (l.map Host.cs) 5 = true := by simp [szAll]
@[go_sem] theorem szAll_strs (l : List Str) : szAll (strs l) 1 = true := by simp [szAll]
abbrev Str.cs (s : Str) : List PV := [.str s]
section
theorem c111 {f : FuncId} {caps : List PV} {p : Block → Bool} (l : List Block) (hl : few l) (hr : Ro caps) (h : ∀ b ∈ l, VF Tryz.prog f ((.agg b.cs) :: caps) (.bool (p b))) :
    VF Tryz.prog 111 [.sl (blks l), .fn f caps] (.int .i64 (findI p l)) := by
  refine VF.intro Tryz.func111 rfl ok111 (by simp [Tryz.f111]) ?_
  simp [go_sem, Tryz.f111]
  refine VW_forQ (fun i : Nat => i ≤ l.length ∧ ∀ (j : Nat) (x : Block), j < i → l[j]? = some x → p x = false) (fun i => l.length - i) (fun i => [(0, .sl (blks l)), (1, .fn f caps), (7, .int .i64 l.length), (8, .int .i64 i)]) (fun _ => []) 0 [] (by simp) (by simp [go_sem, hr.rn]) ?_
  intro i hi
  obtain ⟨hd1, hd2⟩ := findI_drop hi.2
  by_cases hlt : i < l.length
  · obtain ⟨x, hx⟩ : ∃ x, l[i] = x := ⟨_, rfl⟩
    have e : l[i]? = some x := by rw [List.getElem?_eq_getElem hlt, hx]
    simp [go_sem, hlt, hx, hr.r4, hr.d4]
    refine callK_of (h x (List.mem_of_getElem? e)) ?_
    simp [go_sem]
    refine ⟨fun hp => ?_, fun hp => backK_of (i + 1) [] ⟨⟨by omega, fun j y hj hy => ?_⟩, by omega, ?_⟩⟩
    · rw [hd1 x e hp]
    · rcases Nat.lt_or_ge j i with h5 | h5
      · exact hi.2 j y h5 hy
      · obtain rfl : j = i := by omega
        rw [e] at hy; cases hy; exact hp
    · simp [go_sem, hr.rn]; rw [i64w _ (by omega)]
  · simp [go_sem, hlt]
    rw [hd2 (by omega)]
theorem c53 {f : FuncId} {caps : List PV} {p : Block → Bool} (l : List Block) (hl : few l) (hr : Ro caps) (h : ∀ b ∈ l, VF Tryz.prog f ((.agg b.cs) :: caps) (.bool (p b))) :
    VF Tryz.prog 53 [.sl (blks l), .fn f caps] (.bool (l.any p)) := by
  refine VF.intro Tryz.func53 rfl ok53 (by simp [Tryz.f53]) ?_
  simp [go_sem, Tryz.f53]
  simp [hr.r3, hr.d3]
  refine callK_of (c111 l hl hr h) ?_
  simp [go_sem]
  exact findI_any p l
theorem c101 {f : FuncId} {caps : List PV} {p : Host → Bool} (l : List Host) (hl : few l) (hr : Ro caps) (h : ∀ b ∈ l, VF Tryz.prog f ((.agg b.cs) :: caps) (.bool (p b))) :
    VF Tryz.prog 101 [.sl (hsts l), .fn f caps] (.int .i64 (findI p l)) := by
  refine VF.intro Tryz.func101 rfl ok101 (by simp [Tryz.f101]) ?_
  simp [go_sem, Tryz.f101]
  refine VW_forQ (fun i : Nat => i ≤ l.length ∧ ∀ (j : Nat) (x : Host), j < i → l[j]? = some x → p x = false) (fun i => l.length - i) (fun i => [(0, .sl (hsts l)), (1, .fn f caps), (7, .int .i64 l.length), (8, .int .i64 i)]) (fun _ => []) 0 [] (by simp) (by simp [go_sem, hr.rn]) ?_
  intro i hi
  obtain ⟨hd1, hd2⟩ := findI_drop hi.2
  by_cases hlt : i < l.length
  · obtain ⟨x, hx⟩ : ∃ x, l[i] = x := ⟨_, rfl⟩
    have e : l[i]? = some x := by rw [List.getElem?_eq_getElem hlt, hx]
    simp [go_sem, hlt, hx, hr.r4, hr.d4]
    refine callK_of (h x (List.mem_of_getElem? e)) ?_
    simp [go_sem]
    refine ⟨fun hp => ?_, fun hp => backK_of (i + 1) [] ⟨⟨by omega, fun j y hj hy => ?_⟩, by omega, ?_⟩⟩
    · rw [hd1 x e hp]
    · rcases Nat.lt_or_ge j i with h5 | h5
      · exact hi.2 j y h5 hy
      · obtain rfl : j = i := by omega
        rw [e] at hy; cases hy; exact hp
    · simp [go_sem, hr.rn]; rw [i64w _ (by omega)]
  · simp [go_sem, hlt]
    rw [hd2 (by omega)]
theorem c42 {f : FuncId} {caps : List PV} {p : Host → Bool} (l : List Host) (hl : few l) (hr : Ro caps) (h : ∀ b ∈ l, VF Tryz.prog f ((.agg b.cs) :: caps) (.bool (p b))) :
    VF Tryz.prog 42 [.sl (hsts l), .fn f caps] (.bool (l.any p)) := by
  refine VF.intro Tryz.func42 rfl ok42 (by simp [Tryz.f42]) ?_
  simp [go_sem, Tryz.f42]
  simp [hr.r3, hr.d3]
  refine callK_of (c101 l hl hr h) ?_
  simp [go_sem]
  exact findI_any p l
theorem c144 {f : FuncId} {caps : List PV} {p : Str → Bool} (l : List Str) (hl : few l) (hr : Ro caps) (h : ∀ b ∈ l, VF Tryz.prog f ((.str b) :: caps) (.bool (p b))) :
    VF Tryz.prog 144 [.sl (strs l), .fn f caps] (.int .i64 (findI p l)) := by
  refine VF.intro Tryz.func144 rfl ok144 (by simp [Tryz.f144]) ?_
  simp [go_sem, Tryz.f144]
  refine VW_forQ (fun i : Nat => i ≤ l.length ∧ ∀ (j : Nat) (x : Str), j < i → l[j]? = some x → p x = false) (fun i => l.length - i) (fun i => [(0, .sl (strs l)), (1, .fn f caps), (7, .int .i64 l.length), (8, .int .i64 i)]) (fun _ => []) 0 [] (by simp) (by simp [go_sem, hr.rn]) ?_
  intro i hi
  obtain ⟨hd1, hd2⟩ := findI_drop hi.2
  by_cases hlt : i < l.length
  · obtain ⟨x, hx⟩ : ∃ x, l[i] = x := ⟨_, rfl⟩
    have e : l[i]? = some x := by rw [List.getElem?_eq_getElem hlt, hx]
    simp [go_sem, hlt, hx, hr.r4, hr.d4]
    refine callK_of (h x (List.mem_of_getElem? e)) ?_
    simp [go_sem]
    refine ⟨fun hp => ?_, fun hp => backK_of (i + 1) [] ⟨⟨by omega, fun j y hj hy => ?_⟩, by omega, ?_⟩⟩
    · rw [hd1 x e hp]
    · rcases Nat.lt_or_ge j i with h5 | h5
      · exact hi.2 j y h5 hy
      · obtain rfl : j = i := by omega
        rw [e] at hy; cases hy; exact hp
    · simp [go_sem, hr.rn]; rw [i64w _ (by omega)]
  · simp [go_sem, hlt]
    rw [hd2 (by omega)]
theorem c94 {f : FuncId} {caps : List PV} {p : Str → Bool} (l : List Str) (hl : few l) (hr : Ro caps) (h : ∀ b ∈ l, VF Tryz.prog f ((.str b) :: caps) (.bool (p b))) :
    VF Tryz.prog 94 [.sl (strs l), .fn f caps] (.bool (l.any p)) := by
  refine VF.intro Tryz.func94 rfl ok94 (by simp [Tryz.f94]) ?_
  simp [go_sem, Tryz.f94]
  simp [hr.r3, hr.d3]
  refine callK_of (c144 l hl hr h) ?_
  simp [go_sem]
  exact findI_any p l
end

/-! ### By prefixes -/
def isP (p : Prefix) (b : Block) : Bool := decide (b.p = p)
theorem Prefix.eq_iff (a b : Prefix) : a = b ↔ a.addr.v6 = b.addr.v6 ∧ a.addr.hi = b.addr.hi ∧ a.addr.lo = b.addr.lo ∧ a.bits = b.bits := by
  obtain ⟨⟨a1, a2, a3⟩, a4⟩ := a; obtain ⟨⟨b1, b2, b3⟩, b4⟩ := b
  simp [and_assoc]
theorem c146 (b : Block) (p : Prefix) : VF Tryz.prog 146 [.agg b.cs, .pro p.cs 0] (.bool (isP p b)) := by
  refine VF.intro Tryz.func146 rfl ok146 (by simp [Tryz.f146]) ?_
  simp [go_sem, Tryz.f146]
  rw [Bool.eq_iff_iff]
  simp [isP, Prefix.eq_iff b.p p, and_assoc]
theorem c97 (l : List Block) (p : Prefix) (hl : few l) : VF Tryz.prog 97 [.sl (blks l), .agg p.cs] (.int .i64 (findI (isP p) l)) := by
  refine VF.intro Tryz.func97 rfl ok97 (by simp [Tryz.f97]) ?_
  simp [go_sem, Tryz.f97]
  refine callK_of (c111 l hl (.box _ _) (fun b hb => c146 b p)) ?_
  simp [go_sem]
theorem c147 (b : Block) (p : Prefix) : VF Tryz.prog 147 [.agg b.cs, .pro p.cs 0] (.bool (lies b.p p)) := by
  refine VF.intro Tryz.func147 rfl ok147 (by simp [Tryz.f147]) ?_
  simp [go_sem, Tryz.f147]
  refine callK_of (c136 _ _ _ _ _ _ _ _) ?_
  simp [go_sem]
theorem c98 (l : List Block) (p : Prefix) (hl : few l) : VF Tryz.prog 98 [.sl (blks l), .agg p.cs] (.bool (l.any fun b => lies b.p p)) := by
  refine VF.intro Tryz.func98 rfl ok98 (by simp [Tryz.f98]) ?_
  simp [go_sem, Tryz.f98]
  refine callK_of (c53 l hl (.box _ _) (fun b hb => c147 b p)) ?_
  simp [go_sem]
theorem c135 (o b : Block) : VF Tryz.prog 135 [.agg o.cs, .pro b.cs 0] (.bool (barred b o)) := by
  refine VF.intro Tryz.func135 rfl ok135 (by simp [Tryz.f135]) ?_
  simp [go_sem, Tryz.f135]
  refine callK_of (c136 _ _ _ _ _ _ _ _) ?_
  simp [go_sem]
  refine callK_if (fun hg => c137 o b) ?_
  simp [go_sem]
  simp [barred]
theorem c85 (l : List Block) (b : Block) (hl : few l) : VF Tryz.prog 85 [.sl (blks l), .agg b.cs] (.bool (l.any fun o => barred b o)) := by
  refine VF.intro Tryz.func85 rfl ok85 (by simp [Tryz.f85]) ?_
  simp [go_sem, Tryz.f85]
  refine callK_of (c53 l hl (.box _ _) (fun o ho => c135 o b)) ?_
  simp [go_sem]
def findB (l : List Block) (p : Prefix) : Option Block := l.find? (isP p)
end Go.V
/- Blocks: finding, holding, tables. Nothing is assumed. -/
set_option linter.unusedVariables false
set_option linter.unusedSimpArgs false
set_option maxRecDepth 20000
set_option pp.deepTerms false
namespace Go.V
open Go.Proofs

theorem findI_cases {α : Type} (p : α → Bool) (l : List α) : (findI p l = -1 ∧ l.find? p = none) ∨ ∃ (i : Nat) (x : α), findI p l = i ∧ l[i]? = some x ∧ p x = true ∧ l.find? p = some x ∧ ∀ (j : Nat) (y : α), j < i → l[j]? = some y → p y = false := by
  cases h : l.findIdx? p with
  | none =>
    left
    refine ⟨by simp [findI, h], ?_⟩
    rw [List.find?_eq_none]
    intro x hx; simpa using List.findIdx?_eq_none_iff.1 h x hx
  | some i =>
    right
    obtain ⟨h1, h2, h3⟩ := List.findIdx?_eq_some_iff_getElem.1 h
    refine ⟨i, l[i], by simp [findI, h], List.getElem?_eq_getElem h1, h2, ?_, fun j y hj hy => ?_⟩
    · rw [List.find?_eq_some_iff_getElem]
      exact ⟨h2, i, h1, rfl, fun j hj => by have := h3 j hj; simpa using this⟩
    · obtain ⟨k1, k2⟩ := List.getElem?_eq_some_iff.1 hy
      have := h3 j hj
      rw [k2] at this; simpa using this
theorem find_at {α : Type} {p : α → Bool} {l : List α} {i : Nat} (h : ∀ (j : Nat) (x : α), j < i → l[j]? = some x → p x = false) :
    (∀ x, l[i]? = some x → p x = true → l.find? p = some x) ∧ (l.length ≤ i → l.find? p = none) := by
  constructor
  · intro x hx hp
    obtain ⟨h1, h2⟩ := List.getElem?_eq_some_iff.1 hx
    rw [List.find?_eq_some_iff_getElem]
    exact ⟨hp, i, h1, h2, fun j hj => by rw [h j _ hj (List.getElem?_eq_getElem (by omega))]; rfl⟩
  · intro hl
    rw [List.find?_eq_none]
    intro x hx
    obtain ⟨j, hj, e⟩ := List.mem_iff_getElem.1 hx
    rw [h j x (by omega) (by rw [List.getElem?_eq_getElem hj, e])]; simp
theorem any_at {α : Type} {p : α → Bool} {l : List α} {i : Nat} (h : ∀ (j : Nat) (x : α), j < i → l[j]? = some x → p x = false) :
    (∀ x, l[i]? = some x → p x = true → l.any p = true) ∧ (l.length ≤ i → l.any p = false) := by
  constructor
  · intro x hx hp
    rw [List.any_eq_true]; exact ⟨x, List.mem_of_getElem? hx, hp⟩
  · intro hl
    rw [List.any_eq_false]
    intro x hx
    obtain ⟨j, hj, e⟩ := List.mem_iff_getElem.1 hx
    rw [h j x (by omega) (by rw [List.getElem?_eq_getElem hj, e])]; simp
theorem upto_next {α : Type} {p : α → Bool} {l : List α} {i : Nat} {x : α} (h : ∀ (j : Nat) (x : α), j < i → l[j]? = some x → p x = false) (e : l[i]? = some x) (hp : p x = false) : ∀ (j : Nat) (x : α), j < i + 1 → l[j]? = some x → p x = false := by
  intro j y hj hy
  rcases Nat.lt_or_ge j i with h5 | h5
  · exact h j y h5 hy
  · obtain rfl : j = i := by omega
    rw [e] at hy; cases hy; exact hp
abbrev Prefix.beqR (a b : Prefix) : Bool := a.addr.v6 == b.addr.v6 && (a.addr.hi == b.addr.hi && (a.addr.lo == b.addr.lo && (a.bits == b.bits && true)))
theorem c48 (l : List Block) (p : Prefix) (hl : few l) : VF Tryz.prog 48 [.sl (blks l), .agg p.cs] (.tup [.agg ((findB l p).getD .zero).cs, .bool (findB l p).isSome]) := by
  have e := c97 l p hl
  rcases findI_cases (isP p) l with ⟨h1, h2⟩ | ⟨i, x, h1, h2, h3, h4, h5⟩
  · rw [show findB l p = none from h2]
    rw [h1] at e
    refine VF.intro Tryz.func48 rfl ok48 (by simp [Tryz.f48]) ?_
    simp [go_sem, Tryz.f48]
    refine callK_of e ?_
    simp [go_sem]
  · rw [show findB l p = some x from h4]
    rw [h1] at e
    refine VF.intro Tryz.func48 rfl ok48 (by simp [Tryz.f48]) ?_
    simp [go_sem, Tryz.f48]
    refine callK_of e ?_
    simp [go_sem, h2]
theorem c125 (l : List Block) (p : Prefix) (hl : few l) : VF Tryz.prog 125 [.sl (blks l), .agg p.cs] (.tup [.agg ((findB l p).getD .zero).cs, .bool (findB l p).isSome]) := by
  generalize hr : findB l p = r
  refine VF.intro Tryz.func125 rfl ok125 (by simp [Tryz.f125]) ?_
  simp [go_sem, Tryz.f125]
  refine VW_forQ (fun i : Nat => i ≤ l.length ∧ ∀ (j : Nat) (x : Block), j < i → l[j]? = some x → isP p x = false) (fun i => l.length - i) (fun i => [(0, .sl (blks l)), (3, .ptr 1000 0), (4, .ptr 1001 0), (6, .int .i64 i)]) (fun _ => [(1000, .box p.cs true), (1001, .box Block.zero.cs true)]) 0 [some 1000, some 1001] (by simp) (by simp [go_sem]) ?_
  intro i hi
  obtain ⟨hd1, hd2⟩ := find_at hi.2
  by_cases hlt : i < l.length
  · obtain ⟨x, hx⟩ : ∃ x, l[i] = x := ⟨_, rfl⟩
    have e : l[i]? = some x := by rw [List.getElem?_eq_getElem hlt, hx]
    simp [go_sem, hlt, hx]
    refine drawK_of (by kernel_rfl) ?_
    simp [go_sem]
    refine ⟨fun h1 h2 h3 h4 => ?_, fun h => ?_⟩
    · have : isP p x = true := by simp [isP, Prefix.eq_iff, h1, h2, h3, h4]
      rw [show r = some x from hr ▸ hd1 x e this]; simp [go_sem, hlt, hx]
    · have : isP p x = false := by simp [isP, Prefix.eq_iff]; exact h
      refine backK_of (i + 1) [some 1000, some 1001] ⟨⟨by omega, upto_next hi.2 e this⟩, by omega, ?_⟩
      simp [go_sem]; rw [i64w _ (by omega)]
  · rw [show r = none from hr ▸ hd2 (by omega)]
    simp [go_sem, hlt]
theorem c127 (l : List Block) (p : Prefix) (hl : few l) : VF Tryz.prog 127 [.sl (blks l), .agg p.cs] (.bool (l.any fun b => lies b.p p)) := by
  generalize hr : (l.any fun b => lies b.p p) = r
  refine VF.intro Tryz.func127 rfl ok127 (by simp [Tryz.f127]) ?_
  simp [go_sem, Tryz.f127]
  refine VW_forQ (fun i : Nat => i ≤ l.length ∧ ∀ (j : Nat) (x : Block), j < i → l[j]? = some x → lies x.p p = false) (fun i => l.length - i) (fun i => [(0, .sl (blks l)), (3, .ptr 1000 0), (5, .int .i64 i)]) (fun _ => [(1000, .box p.cs true)]) 0 [some 1000] (by simp) (by simp [go_sem]) ?_
  intro i hi
  obtain ⟨hd1, hd2⟩ := any_at (p := fun b : Block => lies b.p p) hi.2
  by_cases hlt : i < l.length
  · obtain ⟨x, hx⟩ : ∃ x, l[i] = x := ⟨_, rfl⟩
    have e : l[i]? = some x := by rw [List.getElem?_eq_getElem hlt, hx]
    simp [go_sem, hlt, hx]
    refine callK_of (c121 _ _ _ _ _ _ _ _) ?_
    simp [go_sem]
    refine drawK_of (by kernel_rfl) ?_
    simp [go_sem]
    refine ⟨fun h => by rw [← hr, hd1 x e h], fun h => backK_of (i + 1) [some 1000] ⟨⟨by omega, upto_next hi.2 e h⟩, by omega, ?_⟩⟩
    simp [go_sem]; rw [i64w _ (by omega)]
  · simp [go_sem, hlt]
    rw [← hr, hd2 (by omega)]
end Go.V
/- Blocks: the smallest block around an address; tables. Nothing is assumed. -/
set_option linter.unusedVariables false
set_option linter.unusedSimpArgs false
set_option maxRecDepth 20000
set_option pp.deepTerms false
namespace Go.V
open Go.Proofs

def better (w : Block → Bool) (best : Option Block) (b : Block) : Option Block := if w b && (match best with | none => true | some x => decide (x.p.bits < b.p.bits)) then some b else best
def closest (w : Block → Bool) (l : List Block) : Option Block := l.foldl (better w) none
def holder (l : List Block) (a : Addr) : Option Block := closest (fun b => b.p.has a) l
theorem fold_take {α β : Type} (f : β → α → β) (z : β) (l : List α) (i : Nat) (x : α) (h : l[i]? = some x) : (l.take (i + 1)).foldl f z = f ((l.take i).foldl f z) x := by
  obtain ⟨h1, h2⟩ := List.getElem?_eq_some_iff.1 h
  rw [List.take_succ_eq_append_getElem h1, List.foldl_append, h2]; rfl
theorem c142 {f : FuncId} {caps : List PV} {w : Block → Bool} (l : List Block) (hl : few l) (hr : Ro caps) (h : ∀ b ∈ l, VF Tryz.prog f (.agg b.cs :: caps) (.bool (w b))) :
    VF Tryz.prog 142 [.sl (blks l), .fn f caps] (.tup [.agg ((closest w l).getD .zero).cs, .bool (closest w l).isSome]) := by
  generalize hq : closest w l = r
  refine VF.intro Tryz.func142 rfl ok142 (by simp [Tryz.f142]) ?_
  simp [go_sem, Tryz.f142]
  refine VW_forQ (fun i : Nat => i ≤ l.length) (fun i => l.length - i) (fun i => [(1, .fn f caps), (4, .ptr 1000 0), (6, .ptr 2000 0), (7, .bool ((l.take i).foldl (better w) none).isSome), (10, .sl (blks l)), (11, .int .i64 l.length), (12, .int .i64 i)])
    (fun i => [(1000, .box Block.zero.cs true), (2000, .box (((l.take i).foldl (better w) none).getD .zero).cs true)]) 0 [some 1000, some 2000] (by simp) (by simp [go_sem, hr.rn]) ?_
  intro i hi
  by_cases hlt : i < l.length
  · obtain ⟨x, hx⟩ : ∃ x, l[i] = x := ⟨_, rfl⟩
    have e : l[i]? = some x := by rw [List.getElem?_eq_getElem hlt, hx]
    have ht := fold_take (better w) none l i x e
    generalize hb : (l.take i).foldl (better w) none = best at *
    simp [go_sem, hlt, hx, hr.r4, hr.d4]
    refine callK_of (h x (List.mem_of_getElem? e)) ?_
    simp [go_sem]
    refine ⟨by grind, fun h1 h2 => ?_, fun h1 => ?_⟩
    · have hn : better w best x = some x := by
        unfold better
        rw [if_pos]
        simp [h1]
        cases best with
        | none => rfl
        | some y => simp at h2; simpa using h2
      rw [hn] at ht
      refine backK_of (i + 1) [some 1000, some 2000] ⟨by omega, by omega, ?_⟩
      simp only [ht]
      simp [go_sem, hr.rn]; rw [i64w _ (by omega)]
    · have hn : better w best x = best := by
        unfold better
        rw [if_neg]
        simp
        intro hw
        have h3 := h1 hw
        cases best with
        | none => simp at h3
        | some y => simpa using h3.2
      rw [hn] at ht
      refine backK_of (i + 1) [some 1000, some 2000] ⟨by omega, by omega, ?_⟩
      simp only [ht]
      simp [go_sem, hr.rn]; rw [i64w _ (by omega)]
  · have : (l.take i).foldl (better w) none = r := by rw [List.take_of_length_le (by omega)]; exact hq
    simp [go_sem, hlt, this]
theorem c143 (b : Block) (a : Addr) : VF Tryz.prog 143 [.agg b.cs, .pro a.cs 0] (.bool (b.p.has a)) := by
  refine VF.intro Tryz.func143 rfl ok143 (by simp [Tryz.f143]) ?_
  simp [go_sem, Tryz.f143]
  refine callK_of (c55 _ _ _ _ _ _ _) ?_
  simp [go_sem]
theorem c93 (l : List Block) (a : Addr) (hl : few l) : VF Tryz.prog 93 [.sl (blks l), .agg a.cs] (.tup [.agg ((holder l a).getD .zero).cs, .bool (holder l a).isSome]) := by
  have e := c142 l hl (.box a.cs 0) (fun b hb => c143 b a)
  rw [show closest (fun b => b.p.has a) l = holder l a from rfl] at e
  generalize holder l a = r at *
  refine VF.intro Tryz.func93 rfl ok93 (by simp [Tryz.f93]) ?_
  simp [go_sem, Tryz.f93]
  refine callK_of e ?_
  simp [go_sem]
theorem c73 (l : List Block) (a : Addr) (hl : few l) : VF Tryz.prog 73 [.sl (blks l), .agg a.cs] (.tup [.agg ((holder l a).getD .zero).cs, .bool (holder l a).isSome]) := by
  have hc : holder l a = l.foldl (better fun b => b.p.has a) none := rfl
  generalize hq : holder l a = r at *
  refine VF.intro Tryz.func73 rfl ok73 (by simp [Tryz.f73]) ?_
  simp [go_sem, Tryz.f73]
  refine VW_forQ (ι := Nat × Int) (fun x => x.1 ≤ l.length ∧ (match (l.take x.1).foldl (better fun b => b.p.has a) none with | none => x.2 = -1 | some y => ∃ k : Nat, x.2 = k ∧ l[k]? = some y)) (fun x => l.length - x.1)
    (fun x => [(0, .sl (blks l)), (3, .ptr 1000 0), (4, .ptr 1001 0), (6, .int .i64 x.2), (7, .int .i64 x.1)])
    (fun i => [(1000, .box a.cs true), (1001, .box Block.zero.cs true)]) (0, -1) [some 1000, some 1001] (by simp) (by simp [go_sem]) ?_
  rintro ⟨i, k⟩ ⟨hi, hk⟩
  dsimp only at hi hk
  by_cases hlt : i < l.length
  · obtain ⟨x, hx⟩ : ∃ x, l[i] = x := ⟨_, rfl⟩
    have e : l[i]? = some x := by rw [List.getElem?_eq_getElem hlt, hx]
    have ht := fold_take (better fun b => b.p.has a) none l i x e
    generalize hb : (l.take i).foldl (better fun b => b.p.has a) none = best at *
    cases hh : x.p.has a with
    | false =>
      have hn : ∀ b, better (fun b => b.p.has a) b x = b := fun b => by simp [better, hh]
      rw [hn] at ht
      simp [go_sem, hlt, hx]
      refine callK_of (c115 _ _ _ _ _ _ _) ?_
      simp [go_sem, hh]
      refine drawK_of (by kernel_rfl) ?_
      simp [go_sem]
      refine backK_of (i + 1, k) [some 1000, some 1001] ⟨⟨by dsimp only; omega, by dsimp only; rw [ht]; exact hk⟩, by dsimp only; omega, ?_⟩
      simp [go_sem]; rw [i64w _ (by omega)]
    | true =>
      cases best with
      | none =>
        subst hk
        have hn : better (fun b => b.p.has a) none x = some x := by simp [better, hh]
        rw [hn] at ht
        simp [go_sem, hlt, hx]
        refine callK_of (c115 _ _ _ _ _ _ _) ?_
        simp [go_sem, hh]
        refine drawK_of (by kernel_rfl) ?_
        simp [go_sem]
        refine backK_of (i + 1, (i : Int)) [some 1000, some 1001] ⟨⟨by dsimp only; omega, by dsimp only; rw [ht]; exact ⟨i, rfl, e⟩⟩, by dsimp only; omega, ?_⟩
        simp [go_sem]; rw [i64w _ (by omega)]
      | some y =>
        obtain ⟨k, rfl, hy⟩ := hk
        have hk0 : ¬ ((k : Int) < 0) := by omega
        simp [go_sem, hlt, hx]
        refine callK_of (c115 _ _ _ _ _ _ _) ?_
        simp [go_sem, hh, hk0, hy, hlt, hx]
        refine drawK_of (by kernel_rfl) ?_
        simp [go_sem]
        refine ⟨fun h1 => ?_, fun h1 => ?_⟩
        · have hn : better (fun b => b.p.has a) (some y) x = some x := by simp [better, hh]; omega
          rw [hn] at ht
          refine backK_of (i + 1, (i : Int)) [some 1000, some 1001] ⟨⟨by dsimp only; omega, by dsimp only; rw [ht]; exact ⟨i, rfl, e⟩⟩, by dsimp only; omega, ?_⟩
          simp [go_sem]; rw [i64w _ (by omega)]
        · have hn : better (fun b => b.p.has a) (some y) x = some y := by simp [better]; omega
          rw [hn] at ht
          refine backK_of (i + 1, (k : Int)) [some 1000, some 1001] ⟨⟨by dsimp only; omega, by dsimp only; rw [ht]; exact ⟨k, rfl, hy⟩⟩, by dsimp only; omega, ?_⟩
          simp [go_sem]; rw [i64w _ (by omega)]
  · have : (l.take i).foldl (better fun b => b.p.has a) none = r := by rw [List.take_of_length_le (by omega)]; exact hc.symm
    rw [this] at hk
    cases r with
    | none =>
      subst hk
      simp [go_sem, hlt]
    | some y =>
      obtain ⟨k, rfl, hy⟩ := hk
      simp [go_sem, hlt, hy]
end Go.V
/- Blocks: what a table is. Nothing is assumed. -/
set_option linter.unusedVariables false
set_option linter.unusedSimpArgs false
set_option maxRecDepth 20000
set_option pp.deepTerms false
namespace Go.V
open Go.Proofs

def faultB (b : Block) : Int := if b.p.ok then if b.may then 0 else 1 else 3
def orderB (x b : Block) : Int := if b.p.cmp x.p < 0 then 7 else if b.p.cmp x.p = 0 then 12 else 0
def prevB (l : List Block) (i : Nat) (b : Block) : Int := match i with
  | 0 => 0
  | j + 1 => match l[j]? with | some x => orderB x b | none => 0
def stepB (l : List Block) (i : Nat) : Int := match l[i]? with
  | none => 0
  | some b => if faultB b ≠ 0 then faultB b else if prevB l i b ≠ 0 then prevB l i b else if (l.take i).any (fun o => barred b o) then 24 else 0
def checkB (l : List Block) : Int := if 512 < l.length then 9 else firstErr (stepB l) l.length
abbrev fitB (b : Block) : Prop := fits b.name ∧ fits b.owner
theorem stepB_zero {l : List Block} {b : Block} (h : l[0]? = some b) : stepB l 0 = faultB b := by
  simp only [stepB, h, prevB]; simp; intro h; exact h.symm
theorem stepB_succ {l : List Block} {i : Nat} {b x : Block} (h : l[i + 1]? = some b) (h2 : l[i]? = some x) : stepB l (i + 1) = if faultB b ≠ 0 then faultB b else if orderB x b ≠ 0 then orderB x b else if (l.take (i + 1)).any (fun o => barred b o) then 24 else 0 := by
  simp only [stepB, h, h2, prevB]
theorem c33 (l : List Block) (hl : few l) (hf : ∀ b ∈ l, fitB b) : VF Tryz.prog 33 [.sl (blks l)] (.int .i64 (checkB l)) := by
  by_cases h9 : 512 < l.length
  · rw [show checkB l = 9 by simp [checkB, h9]]
    have h9' : ¬ ((l.length : Int) ≤ 512) := by omega
    have h9'' : ((512 : Int) < l.length) := by omega
    refine VF.intro Tryz.func33 rfl ok33 (by simp [Tryz.f33]) ?_
    simp [go_sem, Tryz.f33, h9', h9'']
  rw [show checkB l = firstErr (stepB l) l.length by simp [checkB, h9]]
  generalize hr : firstErr (stepB l) l.length = r
  have h9' : ((l.length : Int) ≤ 512) := by omega
  have h9'' : ¬ ((512 : Int) < l.length) := by omega
  refine VF.intro Tryz.func33 rfl ok33 (by simp [Tryz.f33]) ?_
  simp [go_sem, Tryz.f33, h9', h9'']
  refine VW_forQ (fun i : Nat => i ≤ l.length ∧ ∀ j, j < i → stepB l j = 0) (fun i => l.length - i) (fun i => [(0, .sl (blks l)), (10, .sl (blks l)), (11, .int .i64 l.length), (12, .int .i64 i)]) (fun _ => []) 0 [] (by simp) (by simp [go_sem]) ?_
  rintro i ⟨hi, hz⟩
  by_cases hlt : i < l.length
  · obtain ⟨b, hx⟩ : ∃ x, l[i] = x := ⟨_, rfl⟩
    have e : l[i]? = some b := by rw [List.getElem?_eq_getElem hlt, hx]
    obtain ⟨f1, f2⟩ := hf b (List.mem_of_getElem? e)
    have hat := fun h => firstErr_at hz hlt h
    simp [go_sem, hlt, hx]
    refine callK_of (c83 b f1 f2) ?_
    rw [show (if b.p.ok then if b.may then (0 : Int) else 1 else 3) = faultB b from rfl]
    have hback : stepB l i = 0 → ∀ j, j < i + 1 → stepB l j = 0 := fun h0 j hj => by
      rcases Nat.lt_or_ge j i with h5 | h5
      · exact hz j h5
      · obtain rfl : j = i := by omega
        exact h0
    simp [go_sem]
    refine ⟨fun hne => ?_, fun h0 => ?_⟩
    · have hs : stepB l i = faultB b := by
        cases i with
        | zero => exact stepB_zero e
        | succ i => rw [stepB_succ e (List.getElem?_eq_getElem (by omega)), if_pos hne]
      rw [← hr, hat (by rw [hs]; exact hne), hs]
    · cases i with
      | zero =>
        have hs := stepB_zero e
        simp [go_sem]
        refine callK_of (c85 [] b (by simp)) ?_
        simp [go_sem]
        refine drawK_of (by kernel_rfl) ?_
        simp [go_sem]
        refine backK_of 1 [] ⟨⟨by omega, hback (by rw [hs]; exact h0)⟩, by omega, ?_⟩
        simp [go_sem]; rw [i64w _ (by omega)]
      | succ i =>
        obtain ⟨x, hx2⟩ : ∃ x, l[i] = x := ⟨_, rfl⟩
        have e2 : l[i]? = some x := by rw [List.getElem?_eq_getElem (by omega), hx2]
        have hs := stepB_succ e e2
        rw [if_neg (by simpa using h0)] at hs
        have p1 : (0 : Int) < ((i + 1 : Nat) : Int) := by omega
        have p2 : IntKind.i64.wrap (i : Int) = i := i64w _ (by omega)
        simp [go_sem, p1, p2, e2]
        refine callK_of (c84 _ _ _ _ _ _ _ _) ?_
        simp [go_sem]
        refine drawK_of (by kernel_rfl) ?_
        simp [go_sem]
        refine ⟨fun hc => ?_, fun hc => ⟨fun hc2 => ?_, fun hc2 => ?_⟩⟩
        · have ho : orderB x b = 7 := by simp [orderB, hc]
          rw [← hr, hat (by rw [hs, ho]; simp), hs, ho]; simp
        · have ho : orderB x b = 12 := by simp [orderB, hc2]
          rw [← hr, hat (by rw [hs, ho]; simp), hs, ho]; simp
        · have ho : orderB x b = 0 := by simp [orderB, hc2]; omega
          rw [if_neg (by simpa using ho)] at hs
          have p3 : 0 ≤ (i : Int) + 1 ∧ (i : Int) + 1 ≤ l.length := by omega
          rw [if_pos p3]
          simp [go_sem, ← List.map_take]
          refine callK_of (c85 (l.take (i + 1)) b (by simp; omega)) ?_
          simp [go_sem]
          generalize hq : ((l.take (i + 1)).any fun o => barred b o) = q at *
          refine drawK_of (by kernel_rfl) ?_
          simp [go_sem]
          refine ⟨fun h1 => ?_, fun h1 => backK_of (i + 2) [] ⟨⟨by omega, hback (by rw [hs, h1]; rfl)⟩, by omega, ?_⟩⟩
          · subst h1
            rw [← hr, hat (by rw [hs]; simp), hs]; simp
          · simp [go_sem]; rw [i64w _ (by omega)]; omega
  · simp [go_sem, hlt]
    rw [← hr, firstErr_none fun j hj => hz j (by omega)]
theorem barredR_eq {b o : Block} (h : o.may = true) : barredR b o = barred b o := by
  simp only [Block.may, Bool.and_eq_true, decide_eq_true_eq] at h
  obtain ⟨⟨⟨⟨⟨h1, h2⟩, _⟩, _⟩, _⟩, _⟩ := h
  unfold barredR barred
  congr 1
  rcases (by omega : o.kind = 1 ∨ o.kind = 2 ∨ o.kind = 3) with h | h | h <;> simp [h]
  rw [Bool.eq_iff_iff]; simp
theorem c22 (l : List Block) (hl : few l) (hf : ∀ b ∈ l, fitB b) : VF Tryz.prog 22 [.sl (blks l)] (.int .i64 (checkB l)) := by
  by_cases h9 : 512 < l.length
  · rw [show checkB l = 9 by simp [checkB, h9]]
    have h9' : ¬ ((l.length : Int) ≤ 512) := by omega
    have h9'' : ((512 : Int) < l.length) := by omega
    refine VF.intro Tryz.func22 rfl ok22 (by simp [Tryz.f22]) ?_
    simp [go_sem, Tryz.f22, h9', h9'']
  rw [show checkB l = firstErr (stepB l) l.length by simp [checkB, h9]]
  generalize hr : firstErr (stepB l) l.length = r
  have h9' : ((l.length : Int) ≤ 512) := by omega
  have h9'' : ¬ ((512 : Int) < l.length) := by omega
  refine VF.intro Tryz.func22 rfl ok22 (by simp [Tryz.f22]) ?_
  simp [go_sem, Tryz.f22, h9', h9'']
  refine VW_forQ (fun i : Nat => i ≤ l.length ∧ ∀ j, j < i → stepB l j = 0) (fun i => l.length - i) (fun i => [(0, .sl (blks l)), (3, .int .i64 i)]) (fun _ => []) 0 [] (by simp) (by simp [go_sem]) ?_
  rintro i ⟨hi, hz⟩
  by_cases hlt : i < l.length
  · obtain ⟨b, hx⟩ : ∃ x, l[i] = x := ⟨_, rfl⟩
    have e : l[i]? = some b := by rw [List.getElem?_eq_getElem hlt, hx]
    obtain ⟨f1, f2⟩ := hf b (List.mem_of_getElem? e)
    have hat := fun h => firstErr_at hz hlt h
    have hback : stepB l i = 0 → ∀ j, j < i + 1 → stepB l j = 0 := fun h0 j hj => by
      rcases Nat.lt_or_ge j i with h5 | h5
      · exact hz j h5
      · obtain rfl : j = i := by omega
        exact h0
    have hfault : faultB b ≠ 0 → stepB l i = faultB b := fun hne => by
      cases i with
      | zero => exact stepB_zero e
      | succ i => rw [stepB_succ e (List.getElem?_eq_getElem (by omega)), if_pos hne]
    have hmay : ∀ (j : Nat) (x : Block), j < i → l[j]? = some x → x.may = true := fun j x hj hx => by
      have h1 := hz j hj
      have h2 : faultB x = 0 := by
        cases j with
        | zero => rw [stepB_zero hx] at h1; exact h1
        | succ j =>
          rw [stepB_succ hx (List.getElem?_eq_getElem (by omega))] at h1
          rcases Classical.em (faultB x = 0) with h | h
          · exact h
          · rw [if_pos h] at h1; exact h1
      unfold faultB at h2
      cases hp : x.p.ok <;> cases hm : x.may <;> simp [hp, hm] at h2 ⊢
    simp [go_sem, hlt, hx]
    refine callK_of (c63 _ _ _ _) ?_
    simp [go_sem]
    refine ⟨fun hp => ?_, fun hp => ?_⟩
    · have hb : faultB b = 3 := by simp [faultB, hp]
      have hs := hfault (by rw [hb]; simp)
      rw [← hr, hat (by rw [hs, hb]; simp), hs, hb]
    simp [go_sem, e]
    refine callK_of (c64 b f1 f2) ?_
    simp [go_sem]
    refine ⟨fun hm => ?_, fun hm => ?_⟩
    · have hb : faultB b = 1 := by simp [faultB, hp, hm]
      have hs := hfault (by rw [hb]; simp)
      rw [← hr, hat (by rw [hs, hb]; simp), hs, hb]
    have h0 : faultB b = 0 := by simp [faultB, hp, hm]
    cases i with
    | zero =>
      have hs : stepB l 0 = if ((l.take 0).any fun o => barred b o) = true then 24 else 0 := by rw [stepB_zero e, h0]; simp
      simp [go_sem]
      refine callK_if (r := .int .i64 0) (fun h => by cases h) ?_
      simp [go_sem]
      refine drawK_of (by kernel_rfl) ?_
      simp [go_sem]
      refine drawK_of (by kernel_rfl) ?_
      simp [go_sem]
      refine VW_unrollQ ?_
      simp [go_sem]
      refine backK_of 1 [] ⟨⟨by omega, hback (by rw [hs]; simp)⟩, by omega, ?_⟩
      simp [go_sem]; rw [i64w _ (by omega)]
    | succ i =>
      obtain ⟨x, hx2⟩ : ∃ x, l[i] = x := ⟨_, rfl⟩
      have e2 : l[i]? = some x := by rw [List.getElem?_eq_getElem (by omega), hx2]
      have hs := stepB_succ e e2
      rw [if_neg (by simpa using h0)] at hs
      have p0 : (0 : Int) ≤ (i : Int) + 1 := by omega
      have p1 : (0 : Int) < (i : Int) + 1 := by omega
      have p2 : IntKind.i64.wrap (i : Int) = i := i64w _ (by omega)
      have pn : ((i : Int) + 1).toNat = i + 1 := by omega
      have e' : l[((i : Int) + 1).toNat]? = some b := by rw [pn]; exact e
      simp [go_sem, p0, p1, p2, e2, e, e']
      refine callK_of (c65 _ _ _ _ _ _ _ _) ?_
      simp [go_sem]
      refine drawK_of (by kernel_rfl) ?_
      simp [go_sem]
      have hsw := Prefix.cmp_swap x.p b.p
      have hz0 := Prefix.cmp_zero b.p x.p
      refine ⟨fun hc => ?_, fun hc => ?_⟩
      · have ho : orderB x b = 7 := by simp [orderB]; omega
        rw [← hr, hat (by rw [hs, ho]; simp), hs, ho]; simp
      simp [go_sem, p0, p1, p2, e2, e, e']
      refine drawK_of (by kernel_rfl) ?_
      simp [go_sem]
      refine ⟨fun q1 q2 q3 q4 => ?_, fun hne => ?_⟩
      · have : b.p.cmp x.p = 0 := hz0.2 ((Prefix.eq_iff _ _).2 ⟨q1.symm, q2.symm, q3.symm, q4.symm⟩)
        have ho : orderB x b = 12 := by simp [orderB, this]
        rw [← hr, hat (by rw [hs, ho]; simp), hs, ho]; simp
      have ho : orderB x b = 0 := by
        have : ¬ b.p.cmp x.p = 0 := fun h => by
          have := (Prefix.eq_iff _ _).1 (hz0.1 h)
          exact hne this.1.symm this.2.1.symm this.2.2.1.symm this.2.2.2.symm
        simp [orderB, this]; omega
      rw [if_neg (by simpa using ho)] at hs
      refine VW_forQ (fun k : Nat => k ≤ (i + 1) ∧ ∀ (j : Nat) (x : Block), j < k → l[j]? = some x → barred b x = false) (fun k => (i + 1) - k) (fun k => [(0, .sl (blks l)), (3, .int .i64 (i + 1)), (4, .int .i64 k)]) (fun _ => []) 0 [] (by simp) (by simp [go_sem]) ?_
      rintro k ⟨hk, hkb⟩
      by_cases hkl : k < (i + 1)
      · have hkl1 : (k : Int) < (i : Int) + 1 := by omega
        obtain ⟨y, hy2⟩ : ∃ y, l[k] = y := ⟨_, rfl⟩
        have ey : l[k]? = some y := by rw [List.getElem?_eq_getElem (by omega), hy2]
        have hb := barredR_eq (b := b) (hmay k y hkl ey)
        simp [go_sem, hkl1, e, ey, p0, e']
        refine callK_of (c66 b y) ?_
        simp [go_sem, hb]
        refine drawK_of (by kernel_rfl) ?_
        simp [go_sem]
        refine ⟨fun h1 => ?_, fun h1 => ?_⟩
        · have ha : ((l.take (i + 1)).any fun o => barred b o) = true := by
            rw [List.any_eq_true]
            exact ⟨y, List.mem_of_getElem? (by rw [List.getElem?_take_of_lt hkl]; exact ey), hb ▸ h1⟩
          rw [ha] at hs
          rw [← hr, hat (by rw [hs]; simp), hs]; simp
        · refine backK_of (k + 1) [] ⟨⟨by omega, upto_next hkb ey (hb ▸ h1)⟩, by omega, ?_⟩
          simp [go_sem]; rw [i64w _ (by omega)]
      · have hkl' : ¬ ((k : Int) < (i : Int) + 1) := by omega
        simp [go_sem, hkl', p0, e']
        refine backK_of ((i + 1) + 1) [] ⟨⟨by omega, hback (by rw [hs]; simp ; intro x hx; obtain ⟨q, hq, he⟩ := List.mem_iff_getElem.1 hx; simp at hq he; exact hkb q x (by omega) (by rw [List.getElem?_eq_getElem (by omega), he]))⟩, by omega, ?_⟩
        simp [go_sem]; rw [i64w _ (by omega)]
  · simp [go_sem, hlt]
    rw [← hr, firstErr_none fun j hj => hz j (by omega)]
end Go.V
/- Hosts and spaces: what is checked. No program is in sight. Nothing is assumed. -/
set_option linter.unusedVariables false
set_option linter.unusedSimpArgs false
namespace Go.V
open Go.Lib

theorem labCmp_zero : ∀ (a b : List Str), labCmp a b = 0 ↔ a = b
  | [], [] => by simp [labCmp]
  | [], _ :: _ => by simp [labCmp]
  | _ :: _, [] => by simp [labCmp]
  | x :: xs, y :: ys => by
    simp only [labCmp]
    by_cases h : compareBytes x y = 0
    · rw [if_pos h, labCmp_zero xs ys]; simp [(cmpB_eq x y).1 h]
    · rw [if_neg h]; simp [h]; intro e; exact absurd ((cmpB_eq x y).2 e) h
theorem labelsOf_inj {a b : Str} (ha : nameOk a = true) (hb : nameOk b = true) (h : labelsOf a = labelsOf b) : a = b := by
  by_cases h1 : a = [46] <;> by_cases h2 : b = [46]
  · rw [h1, h2]
  · rw [h1, labelsOf_root, labelsOf_cuts hb h2] at h
    exact absurd h.symm (cuts_ne_nil (nameOk_last hb))
  · rw [h2, labelsOf_root, labelsOf_cuts ha h1] at h
    exact absurd h (cuts_ne_nil (nameOk_last ha))
  · rw [labelsOf_cuts ha h1, labelsOf_cuts hb h2] at h
    have e1 := flat_cuts a [] (nameOk_last ha)
    have e2 := flat_cuts b [] (nameOk_last hb)
    rw [h] at e1
    rw [List.nil_append] at e1 e2
    exact e1.symm.trans e2
theorem nameCmp_zero {a b : Str} (ha : nameOk a = true) (hb : nameOk b = true) : nameCmp a b = 0 ↔ a = b := by
  simp only [nameCmp, ha, hb, if_true, labCmp_zero, List.reverse_inj]
  exact ⟨labelsOf_inj ha hb, fun h => by rw [h]⟩
def star (n : Str) : Bool := match labelsOf n with | [] => false | l :: _ => l == [42]
theorem star_first {n : Str} (h : nameOk n = true) : ∃ c, n[0]? = some c ∧ star n = (c.toNat == 42) := by
  have hl := nameOk_last h
  by_cases h0 : n = [46]
  · subst h0; exact ⟨46, rfl, rfl⟩
  · have hc := labelsOf_cuts h h0
    have hf := flat_cuts n [] hl
    have hok : labelsOk (cutsA [] n) = true := by simp [nameOk, h0] at h; exact h.2
    cases hL : cutsA [] n with
    | nil => exact absurd hL (cuts_ne_nil hl)
    | cons x r =>
      rw [hL] at hf hok hc
      simp only [flat, List.map_cons, List.flatten_cons, List.nil_append] at hf
      have hx := (labelsOk_iff.1 hok) 0 x rfl
      have hs : star n = (x == [42]) := by simp [star, hc]
      rcases hx with hx | ⟨_, hx⟩
      · cases x with
        | nil => simp [ordinary] at hx
        | cons c x =>
          refine ⟨c, by rw [← hf]; rfl, ?_⟩
          rw [hs]
          simp only [ordinary, List.all_cons, Bool.and_eq_true] at hx
          have hcc := hx.2.1
          have : ¬ c.toNat = 42 := by intro e; simp [ordC, e] at hcc
          have h2 : ¬ c = 42 := by intro e; subst e; exact this rfl
          rw [Bool.eq_iff_iff]; simp [this, h2]
      · subst hx; exact ⟨42, by rw [← hf]; rfl, by rw [hs]; rfl⟩
def faultH (h : Host) : Int := if !nameOk h.name || star h.name then 2 else if !h.addr.ok then 3 else if decide (h.ttl < 0) || decide (2147483647 < h.ttl) then 1 else 0
def hostCmp (a b : Host) : Int := if a.addr.cmp b.addr ≠ 0 then a.addr.cmp b.addr else nameCmp a.name b.name
def beforeH (a b : Host) : Bool := decide (a.addr.cmp b.addr < 0) || (decide (a.addr.cmp b.addr = 0) && decide (nameCmp a.name b.name < 0))
theorem beforeH_eq (a b : Host) : beforeH a b = decide (hostCmp a b < 0) := by
  unfold beforeH hostCmp; by_cases h : a.addr.cmp b.addr = 0 <;> simp [h]
theorem hostCmp_zero {a b : Host} (ha : nameOk a.name = true) (hb : nameOk b.name = true) : hostCmp a b = 0 ↔ a.name = b.name ∧ a.addr = b.addr := by
  have h1 := Addr.cmp_zero a.addr b.addr
  have h2 := nameCmp_zero ha hb
  unfold hostCmp
  split
  · constructor
    · intro h; omega
    · intro h; exact absurd (h1.2 h.2) (by assumption)
  · have : a.addr.cmp b.addr = 0 := by omega
    rw [h2]; exact ⟨fun h => ⟨h, h1.1 this⟩, fun h => h.1⟩
def orderH (x h : Host) : Int := if hostCmp h x < 0 then 7 else if hostCmp h x = 0 then 12 else 0
def prevH (l : List Host) (i : Nat) (h : Host) : Int := match i with
  | 0 => 0
  | j + 1 => match l[j]? with | some x => orderH x h | none => 0
def stepH (l : List Host) (i : Nat) : Int := match l[i]? with
  | none => 0
  | some h => if faultH h ≠ 0 then faultH h else prevH l i h
def checkH (l : List Host) : Int := if 256 < l.length then 9 else firstErr (stepH l) l.length
theorem stepH_zero {l : List Host} {h : Host} (e : l[0]? = some h) : stepH l 0 = faultH h := by
  simp only [stepH, e, prevH]; simp; intro h; exact h.symm
theorem stepH_succ {l : List Host} {i : Nat} {h x : Host} (e : l[i + 1]? = some h) (e2 : l[i]? = some x) : stepH l (i + 1) = if faultH h ≠ 0 then faultH h else orderH x h := by
  simp only [stepH, e, e2, prevH]
theorem stepH_fault {l : List Host} {i : Nat} {h : Host} (e : l[i]? = some h) (hf : faultH h ≠ 0) : stepH l i = faultH h := by
  simp only [stepH, e, if_pos hf]
/-- A space. -/
structure Space where (blocks : List Block) (hosts : List Host) (zones : List Str)
deriving DecidableEq
def Space.zero : Space := ⟨[], [], []⟩
def blocked (l : List Block) (a : Addr) : Bool := match holder l a with | some b => b.kind == 2 || b.kind == 3 | none => false
def zoned (zs : List Str) (n : Str) : Bool := zs.any fun z => under n z
def stepZ (zs : List Str) (i : Nat) : Int := match zs[i]? with
  | none => 0
  | some z => if !nameOk z then 2 else match i with
    | 0 => 0
    | j + 1 => match zs[j]? with | some y => if 0 ≤ nameCmp y z then 2 else 0 | none => 0
def stepO (s : Space) (i : Nat) : Int := match s.hosts[i]? with
  | none => 0
  | some h => if !blocked s.blocks h.addr then 25 else if !zoned s.zones h.name then 13 else 0
def checkS (s : Space) : Int :=
  if checkB s.blocks ≠ 0 then checkB s.blocks else if checkH s.hosts ≠ 0 then checkH s.hosts else if 32 < s.zones.length then 9 else
    if firstErr (stepZ s.zones) s.zones.length ≠ 0 then firstErr (stepZ s.zones) s.zones.length else firstErr (stepO s) s.hosts.length
/-- The faults up to here are none. -/
theorem zero_next {f : Nat → Int} {i : Nat} (hz : ∀ j, j < i → f j = 0) (h0 : f i = 0) : ∀ j, j < i + 1 → f j = 0 := fun j hj => by
  rcases Nat.lt_or_ge j i with h5 | h5
  · exact hz j h5
  · obtain rfl : j = i := by omega
    exact h0
end Go.V
/- Hosts: what is checked. Nothing is assumed. -/
set_option linter.unusedVariables false
set_option linter.unusedSimpArgs false
set_option maxRecDepth 20000
set_option pp.deepTerms false
namespace Go.V
open Go.Proofs

abbrev fitH (h : Host) : Prop := fits h.name
theorem c106 (n : Str) (h : fits n) : VF Tryz.prog 106 [.str n] (.bool (star n)) := by
  unfold star
  refine VF.intro Tryz.func106 rfl ok106 (by simp [Tryz.f106]) ?_
  simp [go_sem, Tryz.f106]
  cases hl : labelsOf n with
  | nil =>
    have e := c92 n h
    rw [hl] at e
    refine callK_of e ?_
    simp [go_sem]
  | cons x r =>
    have e := c92 n h
    rw [hl] at e
    refine callK_of e ?_
    have h0 : (0 : Int) < (r.length : Int) + 1 := by omega
    simp [go_sem, h0]
theorem c67 (n : Str) (h : fits n) : VF Tryz.prog 67 [.str n] (.bool (star n)) := by
  unfold star
  refine VF.intro Tryz.func67 rfl ok67 (by simp [Tryz.f67]) ?_
  simp [go_sem, Tryz.f67]
  cases hl : labelsOf n with
  | nil =>
    have e := c122 n h
    rw [hl] at e
    refine callK_of e ?_
    simp [go_sem]
  | cons x r =>
    have e := c122 n h
    rw [hl] at e
    refine callK_of e ?_
    have h0 : (0 : Int) < (r.length : Int) + 1 := by omega
    simp [go_sem, h0]
theorem c86 (h : Host) (hf : fitH h) : VF Tryz.prog 86 [.agg h.cs] (.int .i64 (faultH h)) := by
  unfold faultH
  cases hn : nameOk h.name with
  | false =>
    refine VF.intro Tryz.func86 rfl ok86 (by simp [Tryz.f86]) ?_
    simp [go_sem, Tryz.f86]
    refine callK_of (c35 _ hf) ?_
    simp [go_sem, hn]
  | true =>
    obtain ⟨c, e, hs⟩ := star_first hn
    refine VF.intro Tryz.func86 rfl ok86 (by simp [Tryz.f86]) ?_
    simp [go_sem, Tryz.f86]
    refine callK_of (c35 _ hf) ?_
    simp [go_sem, hn, e]
    rw [hs]
    refine ⟨fun h1 => ?_, fun h1 => ?_⟩
    · have : c.toNat = 42 := by omega
      simp [this]
    have hc : (c.toNat == 42) = false := by rw [beq_eq_false_iff_ne]; omega
    rw [hc]
    refine callK_of (c138 _ _ _) ?_
    simp [go_sem]
    grind
theorem c87 (a b : Host) (ha : fitH a) (hb : fitH b) : VF Tryz.prog 87 [.agg a.cs, .agg b.cs] (.int .i64 (hostCmp a b)) := by
  by_cases h0 : a.addr.cmp b.addr = 0
  · rw [show hostCmp a b = nameCmp a.name b.name by simp [hostCmp, h0]]
    refine VF.intro Tryz.func87 rfl ok87 (by simp [Tryz.f87]) ?_
    simp [go_sem, Tryz.f87]
    refine callK_of (c134 _ _ _ _ _ _) ?_
    simp [go_sem, h0]
    refine callK_of (c36 _ _ ha hb) ?_
    simp [go_sem]
  · rw [show hostCmp a b = a.addr.cmp b.addr by simp [hostCmp, h0]]
    refine VF.intro Tryz.func87 rfl ok87 (by simp [Tryz.f87]) ?_
    simp [go_sem, Tryz.f87]
    refine callK_of (c134 _ _ _ _ _ _) ?_
    simp [go_sem, h0]
theorem c160 (a b : Host) (ha : fitH a) (hb : fitH b) : VF Tryz.prog 160 [.agg a.cs, .agg b.cs] (.int .i64 (hostCmp a b)) := by
  by_cases h0 : a.addr.cmp b.addr = 0
  · rw [show hostCmp a b = nameCmp a.name b.name by simp [hostCmp, h0]]
    refine VF.intro Tryz.func160 rfl ok160 (by simp [Tryz.f160]) ?_
    simp [go_sem, Tryz.f160]
    refine callK_of (c134 _ _ _ _ _ _) ?_
    simp [go_sem, h0]
    refine callK_of (c36 _ _ ha hb) ?_
    simp [go_sem]
  · rw [show hostCmp a b = a.addr.cmp b.addr by simp [hostCmp, h0]]
    refine VF.intro Tryz.func160 rfl ok160 (by simp [Tryz.f160]) ?_
    simp [go_sem, Tryz.f160]
    refine callK_of (c134 _ _ _ _ _ _) ?_
    simp [go_sem, h0]
theorem c69 (a b : Host) (ha : fitH a) (hb : fitH b) : VF Tryz.prog 69 [.agg a.cs, .agg b.cs] (.bool (decide (hostCmp a b < 0))) := by
  rw [← beforeH_eq]
  unfold beforeH
  refine VF.intro Tryz.func69 rfl ok69 (by simp [Tryz.f69]) ?_
  simp [go_sem, Tryz.f69]
  refine callK_of (c120 _ _ _ _ _ _) ?_
  simp [go_sem]
  refine callK_if (fun hg => c25 _ _ ha hb) ?_
  simp [go_sem]
  exact fun h => ⟨h, fun h2 => ⟨h, h2⟩⟩
theorem c34 (l : List Host) (hl : few l) (hf : ∀ b ∈ l, fitH b) : VF Tryz.prog 34 [.sl (hsts l)] (.int .i64 (checkH l)) := by
  by_cases h9 : 256 < l.length
  · rw [show checkH l = 9 by simp [checkH, h9]]
    have h9' : ¬ ((l.length : Int) ≤ 256) := by omega
    have h9'' : ((256 : Int) < l.length) := by omega
    refine VF.intro Tryz.func34 rfl ok34 (by simp [Tryz.f34]) ?_
    simp [go_sem, Tryz.f34, h9', h9'']
  rw [show checkH l = firstErr (stepH l) l.length by simp [checkH, h9]]
  generalize hr : firstErr (stepH l) l.length = r
  have h9' : ((l.length : Int) ≤ 256) := by omega
  have h9'' : ¬ ((256 : Int) < l.length) := by omega
  refine VF.intro Tryz.func34 rfl ok34 (by simp [Tryz.f34]) ?_
  simp [go_sem, Tryz.f34, h9', h9'']
  refine VW_forQ (fun i : Nat => i ≤ l.length ∧ ∀ j, j < i → stepH l j = 0) (fun i => l.length - i) (fun i => [(0, .sl (hsts l)), (10, .sl (hsts l)), (11, .int .i64 l.length), (12, .int .i64 i)]) (fun _ => []) 0 [] (by simp) (by simp [go_sem]) ?_
  rintro i ⟨hi, hz⟩
  by_cases hlt : i < l.length
  · obtain ⟨b, hx⟩ : ∃ x, l[i] = x := ⟨_, rfl⟩
    have e : l[i]? = some b := by rw [List.getElem?_eq_getElem hlt, hx]
    have f1 := hf b (List.mem_of_getElem? e)
    have hat := fun h => firstErr_at hz hlt h
    simp [go_sem, hlt, hx]
    refine callK_of (c86 b f1) ?_
    have hback := zero_next hz
    simp [go_sem]
    refine ⟨fun hne => ?_, fun h0 => ?_⟩
    · have hs := stepH_fault e hne
      rw [← hr, hat (by rw [hs]; exact hne), hs]
    · cases i with
      | zero =>
        have hs := stepH_zero e
        simp [go_sem]
        refine backK_of 1 [] ⟨⟨by omega, hback (by rw [hs]; exact h0)⟩, by omega, ?_⟩
        simp [go_sem]; rw [i64w _ (by omega)]
      | succ i =>
        obtain ⟨x, hx2⟩ : ∃ x, l[i] = x := ⟨_, rfl⟩
        have e2 : l[i]? = some x := by rw [List.getElem?_eq_getElem (by omega), hx2]
        have f2 := hf x (List.mem_of_getElem? e2)
        have hs := stepH_succ e e2
        rw [if_neg (by simpa using h0)] at hs
        have p1 : ¬ ((i : Int) + 1 = 0) := by omega
        have p2 : IntKind.i64.wrap (i : Int) = i := i64w _ (by omega)
        simp [go_sem, p1, p2, e2]
        refine callK_of (c87 b x f1 f2) ?_
        simp [go_sem]
        refine drawK_of (by kernel_rfl) ?_
        simp [go_sem]
        refine ⟨fun hc => ?_, fun hc => ⟨fun hc2 => ?_, fun hc2 => ?_⟩⟩
        · have ho : orderH x b = 7 := by simp [orderH, hc]
          rw [← hr, hat (by rw [hs, ho]; simp), hs, ho]
        · have ho : orderH x b = 12 := by simp [orderH, hc2]
          rw [← hr, hat (by rw [hs, ho]; simp), hs, ho]
        · have ho : orderH x b = 0 := by simp [orderH, hc2]; omega
          refine backK_of (i + 2) [] ⟨⟨by omega, hback (by rw [hs, ho])⟩, by omega, ?_⟩
          simp [go_sem]; rw [i64w _ (by omega)]; omega
  · simp [go_sem, hlt]
    rw [← hr, firstErr_none fun j hj => hz j (by omega)]
theorem faultH_zero {h : Host} (h0 : faultH h = 0) : nameOk h.name = true := by
  unfold faultH at h0
  cases hn : nameOk h.name
  · simp [hn] at h0
  · rfl
theorem c23 (l : List Host) (hl : few l) (hf : ∀ b ∈ l, fitH b) : VF Tryz.prog 23 [.sl (hsts l)] (.int .i64 (checkH l)) := by
  by_cases h9 : 256 < l.length
  · rw [show checkH l = 9 by simp [checkH, h9]]
    have h9' : ¬ ((l.length : Int) ≤ 256) := by omega
    have h9'' : ((256 : Int) < l.length) := by omega
    refine VF.intro Tryz.func23 rfl ok23 (by simp [Tryz.f23]) ?_
    simp [go_sem, Tryz.f23, h9', h9'']
  rw [show checkH l = firstErr (stepH l) l.length by simp [checkH, h9]]
  generalize hr : firstErr (stepH l) l.length = r
  have h9' : ((l.length : Int) ≤ 256) := by omega
  have h9'' : ¬ ((256 : Int) < l.length) := by omega
  refine VF.intro Tryz.func23 rfl ok23 (by simp [Tryz.f23]) ?_
  simp [go_sem, Tryz.f23, h9', h9'']
  refine VW_forQ (fun i : Nat => i ≤ l.length ∧ ∀ j, j < i → stepH l j = 0) (fun i => l.length - i) (fun i => [(0, .sl (hsts l)), (3, .int .i64 i)]) (fun _ => []) 0 [] (by simp) (by simp [go_sem]) ?_
  rintro i ⟨hi, hz⟩
  by_cases hlt : i < l.length
  · obtain ⟨b, hx⟩ : ∃ x, l[i] = x := ⟨_, rfl⟩
    have e : l[i]? = some b := by rw [List.getElem?_eq_getElem hlt, hx]
    have f1 := hf b (List.mem_of_getElem? e)
    have hat := fun h => firstErr_at hz hlt h
    have hback := zero_next hz
    have hfa : faultH b ≠ 0 → faultH b = r := fun hne => by rw [← hr, hat (by rw [stepH_fault e hne]; exact hne), stepH_fault e hne]
    simp [go_sem, hlt, hx]
    refine callK_of (c24 _ f1) ?_
    simp [go_sem]
    refine callK_if (fun hg => c67 _ f1) ?_
    simp [go_sem]
    refine ⟨fun hn => ?_, fun hn hs => ?_⟩
    · have : faultH b = 2 := by unfold faultH; rw [if_pos]; rcases hn with hn | hn <;> simp [hn]
      rw [← hfa (by rw [this]; simp), this]
    refine callK_of (c68 _ _ _) ?_
    simp [go_sem]
    refine ⟨fun ha => ?_, fun ha => ⟨fun ht => ?_, fun ht1 ht2 => ?_⟩⟩
    · have : faultH b = 3 := by simp [faultH, hn, hs, ha]
      rw [← hfa (by rw [this]; simp), this]
    · have : faultH b = 1 := by simp [faultH, hn, hs, ha]; omega
      rw [← hfa (by rw [this]; simp), this]
    have h0 : faultH b = 0 := by simp [faultH, hn, hs, ha]; omega
    cases i with
    | zero =>
      have hs := stepH_zero e
      simp [go_sem]
      refine callK_if (r := .bool false) (fun h => by cases h) ?_
      simp [go_sem]
      refine drawK_of (by kernel_rfl) ?_
      simp [go_sem]
      refine drawK_of (by kernel_rfl) ?_
      simp [go_sem]
      refine backK_of 1 [] ⟨⟨by omega, hback (by rw [hs]; exact h0)⟩, by omega, ?_⟩
      simp [go_sem]; rw [i64w _ (by omega)]
    | succ i =>
      obtain ⟨x, hx2⟩ : ∃ x, l[i] = x := ⟨_, rfl⟩
      have e2 : l[i]? = some x := by rw [List.getElem?_eq_getElem (by omega), hx2]
      have f2 := hf x (List.mem_of_getElem? e2)
      have hst := stepH_succ e e2
      rw [if_neg (by simpa using h0)] at hst
      have hnx : nameOk x.name = true := by
        have h1 := hz i (by omega)
        rcases Classical.em (faultH x = 0) with h | h
        · exact faultH_zero h
        · rw [stepH_fault e2 h] at h1; exact absurd h1 h
      have hcz := hostCmp_zero (faultH_zero h0) hnx
      have p1 : (0 : Int) < (i : Int) + 1 := by omega
      have p2 : IntKind.i64.wrap (i : Int) = i := i64w _ (by omega)
      simp [go_sem, p1, p2, e2]
      refine callK_of (c69 b x f1 f2) ?_
      simp [go_sem]
      refine drawK_of (by kernel_rfl) ?_
      simp [go_sem]
      refine ⟨fun hc => ?_, fun hc => ?_⟩
      · have ho : orderH x b = 7 := by simp [orderH, hc]
        rw [← hr, hat (by rw [hst, ho]; simp), hst, ho]
      simp [go_sem, p1, p2, e2]
      refine drawK_of (by kernel_rfl) ?_
      simp [go_sem]
      refine ⟨fun q1 q2 q3 q4 => ?_, fun hne => ?_⟩
      · have : hostCmp b x = 0 := hcz.2 ⟨q1, (Addr.eq_iff _ _).2 ⟨q2, q3, q4⟩⟩
        have ho : orderH x b = 12 := by simp [orderH, this]
        rw [← hr, hat (by rw [hst, ho]; simp), hst, ho]
      · have ho : orderH x b = 0 := by
          have : ¬ hostCmp b x = 0 := fun h => by
            obtain ⟨k1, k2⟩ := hcz.1 h
            exact hne k1 (by rw [k2]) (by rw [k2]) (by rw [k2])
          simp [orderH, this]; omega
        refine backK_of (i + 2) [] ⟨⟨by omega, hback (by rw [hst, ho])⟩, by omega, ?_⟩
        simp [go_sem]; rw [i64w _ (by omega)]; omega
  · simp [go_sem, hlt]
    rw [← hr, firstErr_none fun j hj => hz j (by omega)]
end Go.V
/- Spaces: what is checked. Nothing is assumed. -/
set_option linter.unusedVariables false
set_option linter.unusedSimpArgs false
set_option maxRecDepth 20000
set_option pp.deepTerms false
namespace Go.V
open Go.Proofs

abbrev Space.cs (s : Space) : List PV := [.sl (blks s.blocks), .sl (hsts s.hosts), .sl (strs s.zones)]
structure fitS (s : Space) : Prop where
  b : few s.blocks
  h : few s.hosts
  z : few s.zones
  fb : ∀ b ∈ s.blocks, fitB b
  fh : ∀ h ∈ s.hosts, fitH h
  fz : ∀ z ∈ s.zones, fits z
theorem c37 (l : List Block) (h : Host) (hl : few l) : VF Tryz.prog 37 [.sl (blks l), .agg h.cs] (.bool (blocked l h.addr)) := by
  have e := c93 l h.addr hl
  unfold blocked
  refine VF.intro Tryz.func37 rfl ok37 (by simp [Tryz.f37]) ?_
  simp [go_sem, Tryz.f37]
  refine callK_of e ?_
  cases holder l h.addr with
  | none => simp [go_sem]
  | some b => simp [go_sem]; try grind
theorem c26 (l : List Block) (a : Addr) (hl : few l) : VF Tryz.prog 26 [.sl (blks l), .agg a.cs] (.bool (blocked l a)) := by
  have e := c73 l a hl
  unfold blocked
  refine VF.intro Tryz.func26 rfl ok26 (by simp [Tryz.f26]) ?_
  simp [go_sem, Tryz.f26]
  refine callK_of e ?_
  cases holder l a with
  | none => simp [go_sem]
  | some b => simp [go_sem]; try grind
theorem c95 (z n : Str) (hz : fits z) (hn : fits n) : VF Tryz.prog 95 [.str z, .pro [.str n] 0] (.bool (under n z)) := by
  refine VF.intro Tryz.func95 rfl ok95 (by simp [Tryz.f95]) ?_
  simp [go_sem, Tryz.f95]
  refine callK_of (c96 _ _ hn hz) ?_
  simp [go_sem]
theorem c38 (zs : List Str) (n : Str) (hl : few zs) (hz : ∀ z ∈ zs, fits z) (hn : fits n) : VF Tryz.prog 38 [.sl (strs zs), .str n] (.bool (zoned zs n)) := by
  refine VF.intro Tryz.func38 rfl ok38 (by simp [Tryz.f38]) ?_
  simp [go_sem, Tryz.f38]
  refine callK_of (c94 (p := fun z => under n z) zs hl (.box _ _) (fun z h => c95 z n (hz z h) hn)) ?_
  simp [go_sem]
  rfl
theorem c27 (zs : List Str) (n : Str) (hl : few zs) (hz : ∀ z ∈ zs, fits z) (hn : fits n) : VF Tryz.prog 27 [.sl (strs zs), .str n] (.bool (zoned zs n)) := by
  generalize hr : zoned zs n = r
  refine VF.intro Tryz.func27 rfl ok27 (by simp [Tryz.f27]) ?_
  simp [go_sem, Tryz.f27]
  refine VW_forQ (fun i : Nat => i ≤ zs.length ∧ ∀ (j : Nat) (x : Str), j < i → zs[j]? = some x → under n x = false) (fun i => zs.length - i) (fun i => [(0, .sl (strs zs)), (1, .str n), (5, .int .i64 i)]) (fun _ => []) 0 [] (by simp) (by simp [go_sem]) ?_
  intro i hi
  obtain ⟨hd1, hd2⟩ := any_at (p := fun z : Str => under n z) hi.2
  by_cases hlt : i < zs.length
  · obtain ⟨x, hx⟩ : ∃ x, zs[i] = x := ⟨_, rfl⟩
    have e : zs[i]? = some x := by rw [List.getElem?_eq_getElem hlt, hx]
    simp [go_sem, hlt, hx]
    refine callK_of (c74 _ _ hn (hz x (List.mem_of_getElem? e))) ?_
    simp [go_sem]
    refine ⟨fun h => by rw [← hr]; exact hd1 x e h, fun h => backK_of (i + 1) [] ⟨⟨by omega, upto_next hi.2 e h⟩, by omega, ?_⟩⟩
    simp [go_sem]; rw [i64w _ (by omega)]
  · simp [go_sem, hlt]
    rw [← hr]; exact hd2 (by omega)
theorem c14 (s : Space) (hs : fitS s) : VF Tryz.prog 14 [.agg s.cs] (.int .i64 (checkS s)) := by
  obtain ⟨blocks, hosts, zones⟩ := s
  obtain ⟨lb, lh, lz, fb, fh, fz⟩ := hs
  dsimp only at lb lh lz fb fh fz
  generalize hr : checkS ⟨blocks, hosts, zones⟩ = r
  unfold checkS at hr
  dsimp only at hr
  refine VF.intro Tryz.func14 rfl ok14 (by simp [Tryz.f14]) ?_
  simp [go_sem, Tryz.f14]
  refine callK_of (c33 blocks lb fb) ?_
  simp [go_sem]
  refine ⟨fun h => by rw [if_pos h] at hr; exact hr, fun h => ?_⟩
  rw [if_neg (by simpa using h)] at hr
  refine callK_of (c34 hosts lh fh) ?_
  simp [go_sem]
  refine ⟨fun h => by rw [if_pos h] at hr; exact hr, fun h => ?_⟩
  rw [if_neg (by simpa using h)] at hr
  refine ⟨fun h => by rw [if_pos (by omega)] at hr; exact hr, fun h => ?_⟩
  rw [if_neg (by omega)] at hr
  refine VW_forQ (fun i : Nat => i ≤ zones.length ∧ ∀ j, j < i → stepZ zones j = 0) (fun i => zones.length - i) (fun i => [(1, .ptr 1000 0), (26, .sl (strs zones)), (27, .int .i64 zones.length), (28, .int .i64 i)]) (fun _ => [(1000, .box [.sl (blks blocks), .sl (hsts hosts), .sl (strs zones)] true)]) 0 [some 1000] (by simp) (by simp [go_sem]) ?_
  rintro i ⟨hi, hz⟩
  by_cases hlt : i < zones.length
  · obtain ⟨b, hx⟩ : ∃ x, zones[i] = x := ⟨_, rfl⟩
    have e : zones[i]? = some b := by rw [List.getElem?_eq_getElem hlt, hx]
    have f1 := fz b (List.mem_of_getElem? e)
    have hat := fun h => firstErr_at hz hlt h
    have hback := zero_next hz
    simp [go_sem, hlt, hx]
    refine callK_of (c35 _ f1) ?_
    cases hn : nameOk b with
    | false =>
      have hs : stepZ zones i = 2 := by simp [stepZ, e, hn]
      simp [go_sem]
      refine callK_if (r := .int .i64 0) (fun h => by cases h) ?_
      simp [go_sem]
      rw [hat (by rw [hs]; simp), hs] at hr
      exact hr
    | true =>
      cases i with
      | zero =>
        have hs : stepZ zones 0 = 0 := by simp [stepZ, e, hn]
        simp [go_sem]
        refine callK_if (r := .int .i64 0) (fun h => by cases h) ?_
        simp [go_sem]
        refine backK_of 1 [some 1000] ⟨⟨by omega, hback hs⟩, by omega, ?_⟩
        simp [go_sem]; rw [i64w _ (by omega)]
      | succ i =>
        obtain ⟨y, hy⟩ : ∃ x, zones[i] = x := ⟨_, rfl⟩
        have e2 : zones[i]? = some y := by rw [List.getElem?_eq_getElem (by omega), hy]
        have f2 := fz y (List.mem_of_getElem? e2)
        have hs : stepZ zones (i + 1) = if 0 ≤ nameCmp y b then 2 else 0 := by simp [stepZ, e, hn, e2]
        have p1 : (0 : Int) < (i : Int) + 1 := by omega
        have p2 : IntKind.i64.wrap (i : Int) = i := i64w _ (by omega)
        simp [go_sem, p1, p2, e2]
        refine callK_of (c36 y b f2 f1) ?_
        simp [go_sem]
        refine ⟨fun hc => ?_, fun hc => ?_⟩
        · rw [if_pos hc] at hs
          rw [hat (by rw [hs]; simp), hs] at hr
          exact hr
        · rw [if_neg (by omega)] at hs
          refine backK_of (i + 2) [some 1000] ⟨⟨by omega, hback hs⟩, by omega, ?_⟩
          simp [go_sem]; rw [i64w _ (by omega)]; omega
  rw [firstErr_none fun j hj => hz j (by omega)] at hr
  simp only [ne_eq, not_true_eq_false, if_false] at hr
  simp [go_sem, hlt]
  clear hz
  refine VW_forQ (fun i : Nat => i ≤ hosts.length ∧ ∀ j, j < i → stepO ⟨blocks, hosts, zones⟩ j = 0) (fun i => hosts.length - i) (fun i => [(1, .ptr 1000 0), (53, .sl (hsts hosts)), (54, .int .i64 hosts.length), (55, .int .i64 i)]) (fun _ => [(1000, .box [.sl (blks blocks), .sl (hsts hosts), .sl (strs zones)] true)]) 0 [some 1000] (by simp) (by simp [go_sem]) ?_
  rintro i ⟨hi, hz⟩
  by_cases hlt : i < hosts.length
  · obtain ⟨b, hx⟩ : ∃ x, hosts[i] = x := ⟨_, rfl⟩
    have e : hosts[i]? = some b := by rw [List.getElem?_eq_getElem hlt, hx]
    have f1 := fh b (List.mem_of_getElem? e)
    have hat := fun h => firstErr_at hz hlt h
    have hback := zero_next hz
    simp [go_sem, hlt, hx]
    refine callK_of (c37 blocks b lb) ?_
    simp [go_sem]
    refine ⟨fun h => ?_, fun h => ?_⟩
    · have hs : stepO ⟨blocks, hosts, zones⟩ i = 25 := by simp [stepO, e, h]
      rw [hat (by rw [hs]; simp), hs] at hr
      exact hr
    refine callK_of (c38 zones b.name lz fz f1) ?_
    simp [go_sem]
    refine ⟨fun h2 => ?_, fun h2 => ?_⟩
    · have hs : stepO ⟨blocks, hosts, zones⟩ i = 13 := by simp [stepO, e, h, h2]
      rw [hat (by rw [hs]; simp), hs] at hr
      exact hr
    · have hs : stepO ⟨blocks, hosts, zones⟩ i = 0 := by simp [stepO, e, h, h2]
      refine backK_of (i + 1) [some 1000] ⟨⟨by omega, hback hs⟩, by omega, ?_⟩
      simp [go_sem]; rw [i64w _ (by omega)]
  · rw [firstErr_none fun j hj => hz j (by omega)] at hr
    simp [go_sem, hlt]
    exact hr
theorem c9 (s : Space) (hs : fitS s) : VF Tryz.prog 9 [.agg s.cs] (.int .i64 (checkS s)) := by
  obtain ⟨blocks, hosts, zones⟩ := s
  obtain ⟨lb, lh, lz, fb, fh, fz⟩ := hs
  dsimp only at lb lh lz fb fh fz
  generalize hr : checkS ⟨blocks, hosts, zones⟩ = r
  unfold checkS at hr
  dsimp only at hr
  refine VF.intro Tryz.func9 rfl ok9 (by simp [Tryz.f9]) ?_
  simp [go_sem, Tryz.f9]
  refine callK_of (c22 blocks lb fb) ?_
  simp [go_sem]
  refine ⟨fun h => by rw [if_pos h] at hr; exact hr, fun h => ?_⟩
  rw [if_neg (by simpa using h)] at hr
  refine callK_of (c23 hosts lh fh) ?_
  simp [go_sem]
  refine ⟨fun h => by rw [if_pos h] at hr; exact hr, fun h => ?_⟩
  rw [if_neg (by simpa using h)] at hr
  refine ⟨fun h => by rw [if_pos (by omega)] at hr; exact hr, fun h => ?_⟩
  rw [if_neg (by omega)] at hr
  refine VW_forQ (fun i : Nat => i ≤ zones.length ∧ ∀ j, j < i → stepZ zones j = 0) (fun i => zones.length - i) (fun i => [(1, .ptr 1000 0), (5, .int .i64 i)]) (fun _ => [(1000, .box [.sl (blks blocks), .sl (hsts hosts), .sl (strs zones)] true)]) 0 [some 1000] (by simp) (by simp [go_sem]) ?_
  rintro i ⟨hi, hz⟩
  by_cases hlt : i < zones.length
  · obtain ⟨b, hx⟩ : ∃ x, zones[i] = x := ⟨_, rfl⟩
    have e : zones[i]? = some b := by rw [List.getElem?_eq_getElem hlt, hx]
    have f1 := fz b (List.mem_of_getElem? e)
    have hat := fun h => firstErr_at hz hlt h
    have hback := zero_next hz
    simp [go_sem, hlt, hx]
    refine callK_of (c24 _ f1) ?_
    cases hn : nameOk b with
    | false =>
      have hs : stepZ zones i = 2 := by simp [stepZ, e, hn]
      simp [go_sem]
      refine callK_if (r := .int .i64 0) (fun h => by cases h) ?_
      simp [go_sem]
      refine drawK_of (by kernel_rfl) ?_
      simp [go_sem]
      rw [hat (by rw [hs]; simp), hs] at hr
      exact hr
    | true =>
      cases i with
      | zero =>
        have hs : stepZ zones 0 = 0 := by simp [stepZ, e, hn]
        simp [go_sem]
        refine callK_if (r := .int .i64 0) (fun h => by cases h) ?_
        simp [go_sem]
        refine drawK_of (by kernel_rfl) ?_
        simp [go_sem]
        refine backK_of 1 [some 1000] ⟨⟨by omega, hback hs⟩, by omega, ?_⟩
        simp [go_sem]; rw [i64w _ (by omega)]
      | succ i =>
        obtain ⟨y, hy⟩ : ∃ x, zones[i] = x := ⟨_, rfl⟩
        have e2 : zones[i]? = some y := by rw [List.getElem?_eq_getElem (by omega), hy]
        have f2 := fz y (List.mem_of_getElem? e2)
        have hs : stepZ zones (i + 1) = if 0 ≤ nameCmp y b then 2 else 0 := by simp [stepZ, e, hn, e2]
        have p1 : (0 : Int) < (i : Int) + 1 := by omega
        have p2 : IntKind.i64.wrap (i : Int) = i := i64w _ (by omega)
        have p0 : (0 : Int) ≤ (i : Int) + 1 := by omega
        simp [go_sem, p0, p1, p2, e2, e]
        refine callK_of (c25 y b f2 f1) ?_
        simp [go_sem]
        refine drawK_of (by kernel_rfl) ?_
        simp [go_sem]
        refine ⟨fun hc => ?_, fun hc => ?_⟩
        · rw [if_pos hc] at hs
          rw [hat (by rw [hs]; simp), hs] at hr
          exact hr
        · rw [if_neg (by omega)] at hs
          refine backK_of (i + 2) [some 1000] ⟨⟨by omega, hback hs⟩, by omega, ?_⟩
          simp [go_sem]; rw [i64w _ (by omega)]; omega
  rw [firstErr_none fun j hj => hz j (by omega)] at hr
  simp only [ne_eq, not_true_eq_false, if_false] at hr
  simp [go_sem, hlt]
  clear hz
  refine VW_forQ (fun i : Nat => i ≤ hosts.length ∧ ∀ j, j < i → stepO ⟨blocks, hosts, zones⟩ j = 0) (fun i => hosts.length - i) (fun i => [(1, .ptr 1000 0), (6, .int .i64 i)]) (fun _ => [(1000, .box [.sl (blks blocks), .sl (hsts hosts), .sl (strs zones)] true)]) 0 [some 1000] (by simp) (by simp [go_sem]) ?_
  rintro i ⟨hi, hz⟩
  by_cases hlt : i < hosts.length
  · obtain ⟨b, hx⟩ : ∃ x, hosts[i] = x := ⟨_, rfl⟩
    have e : hosts[i]? = some b := by rw [List.getElem?_eq_getElem hlt, hx]
    have f1 := fh b (List.mem_of_getElem? e)
    have hat := fun h => firstErr_at hz hlt h
    have hback := zero_next hz
    simp [go_sem, hlt, hx]
    refine callK_of (c26 blocks b.addr lb) ?_
    simp [go_sem]
    refine drawK_of (by kernel_rfl) ?_
    simp [go_sem]
    refine ⟨fun h => ?_, fun h => ?_⟩
    · have hs : stepO ⟨blocks, hosts, zones⟩ i = 25 := by simp [stepO, e, h]
      rw [hat (by rw [hs]; simp), hs] at hr
      exact hr
    simp [go_sem, e]
    refine callK_of (c27 zones b.name lz fz f1) ?_
    simp [go_sem]
    refine drawK_of (by kernel_rfl) ?_
    simp [go_sem]
    refine ⟨fun h2 => ?_, fun h2 => ?_⟩
    · have hs : stepO ⟨blocks, hosts, zones⟩ i = 13 := by simp [stepO, e, h, h2]
      rw [hat (by rw [hs]; simp), hs] at hr
      exact hr
    · have hs : stepO ⟨blocks, hosts, zones⟩ i = 0 := by simp [stepO, e, h, h2]
      refine backK_of (i + 1) [some 1000] ⟨⟨by omega, hback hs⟩, by omega, ?_⟩
      simp [go_sem]; rw [i64w _ (by omega)]
  · rw [firstErr_none fun j hj => hz j (by omega)] at hr
    simp [go_sem, hlt]
    exact hr
end Go.V
