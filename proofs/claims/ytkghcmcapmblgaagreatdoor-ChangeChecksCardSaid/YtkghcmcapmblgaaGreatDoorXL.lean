/- A part of the proof, merged out of smaller texts. Nothing is assumed. -/
import Derived.Test.YtkghcmcapmblgaaGreatDoorXD
set_option linter.all false
/- Names: order and ancestors. No program is in sight. Nothing is assumed. -/
set_option linter.unusedVariables false
set_option linter.unusedSimpArgs false
namespace Go.V
open Go.Lib

/-- The order of lists of labels, the last label first. -/
def labCmp : List Str → List Str → Int
  | [], [] => 0
  | [], _ :: _ => -1
  | _ :: _, [] => 1
  | x :: xs, y :: ys => if compareBytes x y = 0 then labCmp xs ys else compareBytes x y
def nameCmp (a b : Str) : Int :=
  if nameOk a then (if nameOk b then labCmp (labelsOf a).reverse (labelsOf b).reverse else -1) else if nameOk b then 1 else compareBytes a b
/-- How many are the same from the beginning. -/
def common : List Str → List Str → Nat
  | x :: xs, y :: ys => if x = y then common xs ys + 1 else 0
  | _, _ => 0
def under (n top : Str) : Bool := nameOk n && nameOk top && decide (common (labelsOf n).reverse (labelsOf top).reverse = (labelsOf top).length)

theorem cmpB_eq : ∀ (a b : Str), compareBytes a b = 0 ↔ a = b
  | [], [] => by simp [compareBytes]
  | [], _ :: _ => by simp [compareBytes]
  | _ :: _, [] => by simp [compareBytes]
  | a :: us, b :: bs => by
    simp only [compareBytes]
    by_cases h1 : a < b
    · simp [h1]; intro e; subst e; exact absurd h1 (UInt8.lt_irrefl _)
    · by_cases h2 : b < a
      · simp [h1, h2]; intro e; subst e; exact absurd h2 (UInt8.lt_irrefl _)
      · have e : a = b := UInt8.le_antisymm (UInt8.not_lt.1 h2) (UInt8.not_lt.1 h1)
        simp [h1, h2, e, cmpB_eq us bs]
theorem cmpB_less : ∀ (a b : Str), compareBytes a b = if Op.bytesLess a b then -1 else if Op.bytesLess b a then 1 else 0
  | [], [] => by simp [compareBytes, Op.bytesLess]
  | [], _ :: _ => by simp [compareBytes, Op.bytesLess]
  | _ :: _, [] => by simp [compareBytes, Op.bytesLess]
  | a :: us, b :: bs => by
    simp only [compareBytes, Op.bytesLess]
    by_cases h1 : a < b
    · simp [h1]
    · by_cases h2 : b < a
      · have : ¬ a = b := fun e => by subst e; exact UInt8.lt_irrefl _ h2
        simp [h1, h2, this]
      · have e : a = b := UInt8.le_antisymm (UInt8.not_lt.1 h2) (UInt8.not_lt.1 h1)
        subst e
        simp [h1, cmpB_less us bs]
theorem common_le : ∀ (a b : List Str), common a b ≤ a.length ∧ common a b ≤ b.length
  | x :: xs, y :: ys => by
    have := common_le xs ys
    simp only [common]; split <;> simp <;> omega
  | [], _ => by simp [common]
  | _ :: _, [] => by simp [common]
theorem labCmp_common : ∀ (a b : List Str), labCmp a b = if h : common a b < a.length ∧ common a b < b.length then compareBytes (a[common a b]'h.1) (b[common a b]'h.2) else if a.length < b.length then -1 else if b.length < a.length then 1 else 0
  | [], [] => by simp [labCmp, common]
  | [], _ :: _ => by simp [labCmp, common]
  | _ :: _, [] => by simp [labCmp, common]
  | x :: xs, y :: ys => by
    by_cases e : x = y
    · have h0 : compareBytes x y = 0 := (cmpB_eq x y).2 e
      have hc : common (x :: xs) (y :: ys) = common xs ys + 1 := by simp [common, e]
      rw [labCmp, if_pos h0, labCmp_common xs ys]
      simp [hc]
    · have h0 : ¬ compareBytes x y = 0 := fun h => e ((cmpB_eq x y).1 h)
      have hc : common (x :: xs) (y :: ys) = 0 := by simp [common, e]
      rw [labCmp, if_neg h0]
      simp [hc]
theorem common_step : ∀ (a b : List Str) (k : Nat), k ≤ common a b → common a b = k + common (a.drop k) (b.drop k)
  | a, b, 0, _ => by simp
  | x :: xs, y :: ys, k + 1, h => by
    simp only [common] at h ⊢
    split at h
    · rename_i e; rw [if_pos e, common_step xs ys k (by omega)]; simp; omega
    · omega
  | [], _, k + 1, h => by simp [common] at h
  | _ :: _, [], k + 1, h => by simp [common] at h
theorem common_head {a b : List Str} {x y : Str} {k : Nat} (ha : a[k]? = some x) (hb : b[k]? = some y) : common (a.drop k) (b.drop k) = if x = y then 1 + common (a.drop (k + 1)) (b.drop (k + 1)) else 0 := by
  obtain ⟨h1, e1⟩ := List.getElem?_eq_some_iff.1 ha
  obtain ⟨h2, e2⟩ := List.getElem?_eq_some_iff.1 hb
  rw [List.drop_eq_getElem_cons h1, List.drop_eq_getElem_cons h2, e1, e2]
  simp only [common]; split <;> omega
theorem common_end {a b : List Str} {k : Nat} (h : a.length ≤ k ∨ b.length ≤ k) : common (a.drop k) (b.drop k) = 0 := by
  rcases h with h | h
  · rw [List.drop_eq_nil_of_le h]; cases b.drop k <;> rfl
  · rw [List.drop_eq_nil_of_le h]; cases a.drop k <;> rfl
theorem common_prefix : ∀ (a b : List Str), common a b = b.length ↔ b <+: a
  | [], [] => by simp [common]
  | [], y :: ys => by simp [common]
  | x :: xs, [] => by simp [common]
  | x :: xs, y :: ys => by
    simp only [common, List.cons_prefix_cons, List.length_cons]
    by_cases e : x = y
    · subst e; simp [common_prefix xs ys]
    · simp [e]; intro h; exact absurd h.symm e

theorem cutsA_len : ∀ (s cur : Str), (cutsA cur s).length ≤ s.length
  | [], _ => by simp [cutsA]
  | c :: r, cur => by
    simp only [cutsA]; split
    · have := cutsA_len r []; simp; omega
    · have := cutsA_len r (cur ++ [c]); simp; omega
theorem labels_len (n : Str) : (labelsOf n).length ≤ 254 := by
  unfold labelsOf
  split
  · simp
  · rename_i h0
    split
    · rename_i h
      have := cutsA_len n []
      simp only [nameOk, Bool.or_eq_true, Bool.and_eq_true, beq_iff_eq, decide_eq_true_eq] at h
      rcases h with h | h
      · exact absurd (by simp [h]) h0
      · omega
    · simp
/-! ### Ancestors by suffixes -/
def flat (l : List Str) : Str := (l.map fun x => x ++ [46]).flatten
theorem cutsA_append (s r : Str) : ∀ cur, cutsA cur (s ++ 46 :: r) = cutsA cur (s ++ [46]) ++ cutsA [] r := by
  induction s with
  | nil => intro cur; simp [cutsA]
  | cons c s ih => intro cur; simp only [List.cons_append, cutsA]; split <;> simp [ih]
theorem flat_cuts : ∀ (s cur : Str), s.getLast? = some 46 → flat (cutsA cur s) = cur ++ s
  | [], _, h => by simp at h
  | c :: r, cur, h => by
    cases r with
    | nil =>
      simp at h; subst h; simp [cutsA, flat]
    | cons d r =>
      have h' : (d :: r).getLast? = some 46 := by rw [List.getLast?_cons_cons] at h; exact h
      rw [cutsA]
      split
      · rename_i e; subst e
        have := flat_cuts (d :: r) [] h'
        simp only [flat, List.map_cons, List.flatten_cons] at this ⊢
        rw [this]; simp
      · have := flat_cuts (d :: r) (cur ++ [c]) h'
        rw [this]; simp
theorem nameOk_last {n : Str} (h : nameOk n = true) : n.getLast? = some 46 := by
  simp only [nameOk, Bool.or_eq_true, Bool.and_eq_true, beq_iff_eq] at h
  rcases h with h | h
  · subst h; rfl
  · exact h.1.2
theorem nameOk_len {n : Str} (h : nameOk n = true) : 1 ≤ n.length ∧ n.length ≤ 254 := by
  simp only [nameOk, Bool.or_eq_true, Bool.and_eq_true, beq_iff_eq, decide_eq_true_eq] at h
  rcases h with h | h
  · subst h; simp
  · omega
theorem labelsOf_cuts {n : Str} (h : nameOk n = true) (hn : n ≠ [46]) : labelsOf n = cutsA [] n := by simp [labelsOf, hn, h]
theorem labelsOf_root : labelsOf [46] = [] := rfl
theorem cuts_ne_nil {n : Str} (h : n.getLast? = some 46) : cutsA [] n ≠ [] := by
  intro e
  have := flat_cuts n [] h
  rw [e] at this
  simp [flat] at this
  subst this; simp at h
theorem under_ends {n top : Str} (h1 : nameOk n = true) (h2 : nameOk top = true) : under n top = (top == [46] || n == top || (46 :: top).isSuffixOf n) := by
  have hl1 := nameOk_last h1
  have hl2 := nameOk_last h2
  simp only [under, h1, h2, Bool.true_and]
  by_cases ht : top = [46]
  · subst ht; simp [labelsOf_root, common]
  have e2 := labelsOf_cuts h2 ht
  have hne := cuts_ne_nil hl2
  rw [Bool.eq_iff_iff]
  simp only [decide_eq_true_eq, Bool.or_eq_true, beq_iff_eq, ht, false_or, List.isSuffixOf_iff_suffix]
  rw [← @List.length_reverse _ (labelsOf top), common_prefix, List.reverse_prefix]
  by_cases hn : n = [46]
  · subst hn
    rw [labelsOf_root, e2]
    constructor
    · intro h; exact absurd (List.suffix_nil.1 h) hne
    · rintro (h | ⟨t, h⟩)
      · exact absurd h.symm ht
      · have := congrArg List.length h
        have := nameOk_len h2
        simp at *; omega
  · have e1 := labelsOf_cuts h1 hn
    rw [e1, e2]
    constructor
    · rintro ⟨K, hK⟩
      have hf := flat_cuts n [] hl1
      rw [← hK] at hf
      have hf2 := flat_cuts top [] hl2
      simp only [flat, List.map_append, List.flatten_append, List.nil_append] at hf hf2
      rw [hf2] at hf
      rcases List.eq_nil_or_concat K with rfl | ⟨K', x, rfl⟩
      · left; simpa using hf.symm
      · right
        refine ⟨(K'.map fun x => x ++ [46]).flatten ++ x, ?_⟩
        simpa using hf
    · rintro (h | ⟨t, h⟩)
      · subst h; exact List.suffix_refl _
      · rw [← h, cutsA_append]
        exact List.suffix_append _ _
end Go.V
