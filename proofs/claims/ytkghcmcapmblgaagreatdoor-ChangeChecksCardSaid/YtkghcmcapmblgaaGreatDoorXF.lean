/- A part of the proof, merged out of smaller texts. Nothing is assumed. -/
import Derived.Test.YtkghcmcapmblgaaGreatDoorXE
import Derived.Test.YtkghcmcapmblgaaGreatDoorXC
set_option linter.all false
/- Own copies of lists. Nothing is assumed. -/
set_option linter.unusedVariables false
set_option linter.unusedSimpArgs false
set_option maxRecDepth 20000
set_option pp.deepTerms false
namespace Go.V
open Go.Proofs

theorem c75 (t : Nat) (l : List Block) (hl : few l) : VX Tryz.prog 75 [] [.sl (l.map Block.cs)] (.ref t 8 0 l.length) [(t, .row 42 8 (l.map Block.cs) true)] := by
  cases l with
  | nil =>
    refine VX_emp fun b => ?_
    cases b
    · refine VX.intro Tryz.func75 rfl ok75 (by simp [Tryz.f75]) ?_
      simp [go_sem, Tryz.f75]
      exact ⟨[(t, some 4002, .row 42 8 [] true)], by simp [go_sem], by simp [go_sem], by simp [go_sem], by simp⟩
    · refine VX.intro Tryz.func75 rfl ok75 (by simp [Tryz.f75]) ?_
      simp [go_sem, Tryz.f75]
      exact ⟨[(t, none, .row 42 8 [] true)], by simp [go_sem], by simp [go_sem]; exact ⟨_, _, ⟨rfl, rfl⟩, by omega⟩, by simp [go_sem], by simp⟩
  | cons x l =>
    refine VX.intro Tryz.func75 rfl ok75 (by simp [Tryz.f75]) ?_
    simp [go_sem, Tryz.f75]
    refine ⟨by simp at hl; omega, ?_⟩
    exact ⟨[(t, some 4002, .row 42 8 ((x :: l).map Block.cs) true)], by simp [go_sem], by simp [go_sem], by simp [go_sem], by simp⟩
theorem c76 (t : Nat) (l : List Host) (hl : few l) : VX Tryz.prog 76 [] [.sl (l.map Host.cs)] (.ref t 5 0 l.length) [(t, .row 44 5 (l.map Host.cs) true)] := by
  cases l with
  | nil =>
    refine VX_emp fun b => ?_
    cases b
    · refine VX.intro Tryz.func76 rfl ok76 (by simp [Tryz.f76]) ?_
      simp [go_sem, Tryz.f76]
      exact ⟨[(t, some 4002, .row 44 5 [] true)], by simp [go_sem], by simp [go_sem], by simp [go_sem], by simp⟩
    · refine VX.intro Tryz.func76 rfl ok76 (by simp [Tryz.f76]) ?_
      simp [go_sem, Tryz.f76]
      exact ⟨[(t, none, .row 44 5 [] true)], by simp [go_sem], by simp [go_sem]; exact ⟨_, _, ⟨rfl, rfl⟩, by omega⟩, by simp [go_sem], by simp⟩
  | cons x l =>
    refine VX.intro Tryz.func76 rfl ok76 (by simp [Tryz.f76]) ?_
    simp [go_sem, Tryz.f76]
    refine ⟨by simp at hl; omega, ?_⟩
    exact ⟨[(t, some 4002, .row 44 5 ((x :: l).map Host.cs) true)], by simp [go_sem], by simp [go_sem], by simp [go_sem], by simp⟩
theorem c77 (t : Nat) (l : List Str) (hl : few l) : VX Tryz.prog 77 [] [.sl (l.map (fun s => [PV.str s]))] (.ref t 1 0 l.length) [(t, .row 9 1 (l.map (fun s => [PV.str s])) true)] := by
  cases l with
  | nil =>
    refine VX_emp fun b => ?_
    cases b
    · refine VX.intro Tryz.func77 rfl ok77 (by simp [Tryz.f77]) ?_
      simp [go_sem, Tryz.f77]
      exact ⟨[(t, some 4002, .row 9 1 [] true)], by simp [go_sem], by simp [go_sem], by simp [go_sem], by simp⟩
    · refine VX.intro Tryz.func77 rfl ok77 (by simp [Tryz.f77]) ?_
      simp [go_sem, Tryz.f77]
      exact ⟨[(t, none, .row 9 1 [] true)], by simp [go_sem], by simp [go_sem]; exact ⟨_, _, ⟨rfl, rfl⟩, by omega⟩, by simp [go_sem], by simp⟩
  | cons x l =>
    refine VX.intro Tryz.func77 rfl ok77 (by simp [Tryz.f77]) ?_
    simp [go_sem, Tryz.f77]
    refine ⟨by simp at hl; omega, ?_⟩
    exact ⟨[(t, some 4002, .row 9 1 ((x :: l).map (fun s => [PV.str s])) true)], by simp [go_sem], by simp [go_sem], by simp [go_sem], by simp⟩
end Go.V
/- Lists: an element is put in, or taken out, in place. Nothing is assumed. -/
set_option linter.unusedVariables false
set_option linter.unusedSimpArgs false
namespace Go.V
theorem setR_app {α : Type} (A M B Y : List α) (h : M.length = Y.length) : setR (A ++ (M ++ B)) A.length Y = A ++ (Y ++ B) := by
  have h1 : (A ++ (M ++ B)).take A.length = A := List.take_left' rfl
  have h2 : (A ++ (M ++ B)).drop (A.length + Y.length) = B := by
    rw [← List.append_assoc]; exact List.drop_left' (by simp [h])
  simp only [setR, h1, h2, List.append_assoc]
theorem ins_grow {α : Type} (L : List α) (i : Nat) (z b : α) (hi : i < L.length) : setR (setR (L.take i ++ List.replicate (L.length + 1 - i) z) i [b]) (i + 1) (L.drop i) = L.take i ++ b :: L.drop i := by
  have hA : (L.take i).length = i := by simp; omega
  have hB : (L.drop i).length = L.length - i := by simp
  generalize L.take i = A at *
  generalize L.drop i = B at *
  subst hA
  have e : L.length + 1 - A.length = B.length + 1 := by omega
  rw [e]
  have h1 := setR_app A [z] (List.replicate B.length z) [b] rfl
  have h2 := setR_app (A ++ [b]) (List.replicate B.length z) [] B (by simp)
  simp only [List.append_nil, List.length_append, List.length_singleton, List.append_assoc] at h1 h2
  rw [List.replicate_succ]
  rw [show z :: List.replicate B.length z = [z] ++ List.replicate B.length z from rfl, h1, h2]
  rfl
theorem ins_place {α : Type} (L X : List α) (i : Nat) (b : α) (hi : i < L.length) (hX : X ≠ []) :
    (setR (setR (L ++ X) (i + 1) ((((L ++ X).drop i).take (L.length + 1 - i)).take (L.length - i))) i [b]).take (L.length + 1) = L.take i ++ b :: L.drop i := by
  obtain ⟨x, X, rfl⟩ := List.exists_cons_of_ne_nil hX
  have h0 : L = L.take i ++ L.drop i := (List.take_append_drop i L).symm
  have hA : (L.take i).length = i := by simp; omega
  have hB : (L.drop i).length = L.length - i := by simp
  generalize L.take i = A at *
  generalize L.drop i = B at *
  subst h0
  subst hA
  have hd : (A ++ B ++ x :: X).drop A.length = B ++ x :: X := by simp
  rw [hd]
  simp only [List.length_append] at *
  have e1 : A.length + B.length + 1 - A.length = B.length + 1 := by omega
  have e2 : A.length + B.length - A.length = B.length := by omega
  rw [e1, e2]
  have e3 : ((B ++ x :: X).take (B.length + 1)).take B.length = B := by
    rw [List.take_take, Nat.min_eq_left (by omega)]; exact List.take_left' rfl
  rw [e3]
  cases B with
  | nil => simp at hi
  | cons y B =>
    have h1 := setR_app (A ++ [y]) (B ++ [x]) X (y :: B) (by simp)
    have h2 := setR_app A [y] (y :: B ++ X) [b] rfl
    simp only [List.length_append, List.length_singleton] at h1
    rw [show A ++ y :: B ++ x :: X = A ++ [y] ++ (B ++ [x] ++ X) by simp, h1, show A ++ [y] ++ (y :: B ++ X) = A ++ ([y] ++ (y :: B ++ X)) by simp, h2]
    rw [show A ++ ([b] ++ (y :: B ++ X)) = (A ++ b :: y :: B) ++ X by simp]
    exact List.take_left' (by simp; omega)
/-- One element is taken out: the elements behind it move up, a zero stands behind them. -/
theorem del_place {α : Type} (L X : List α) (i : Nat) (z : α) (hi : i < L.length) :
    (setR (setR (L ++ X) i ((L ++ X).drop (i + 1) |>.take (L.length - (i + 1)))) (L.length - 1) [z]).take (L.length - 1) = L.take i ++ L.drop (i + 1) := by
  have h0 : L = L.take i ++ (L[i] :: L.drop (i + 1)) := by rw [← List.drop_eq_getElem_cons hi]; exact (List.take_append_drop i L).symm
  have hA : (L.take i).length = i := by simp; omega
  have hB : (L.drop (i + 1)).length = L.length - (i + 1) := by simp
  generalize L.take i = A at *
  generalize L.drop (i + 1) = B at *
  generalize L[i] = y at *
  subst h0
  subst hA
  simp only [List.length_append, List.length_cons] at *
  have hd : (A ++ y :: B ++ X).drop (A.length + 1) = B ++ X := by
    rw [show A ++ y :: B ++ X = A ++ [y] ++ (B ++ X) by simp]; exact List.drop_left' (by simp)
  have e1 : A.length + (B.length + 1) - (A.length + 1) = B.length := by omega
  have e2 : A.length + (B.length + 1) - 1 = A.length + B.length := by omega
  rw [hd, e1, e2]
  have e3 : (B ++ X).take B.length = B := List.take_left' rfl
  rw [e3]
  rcases List.eq_nil_or_concat B with rfl | ⟨B', q, rfl⟩
  · have h1 : setR (A ++ [y] ++ X) A.length [] = A ++ [y] ++ X := by simp [setR]
    have h2 := setR_app A [y] X [z] rfl
    rw [h1]
    simp only [List.length_nil, Nat.add_zero, List.append_assoc]
    rw [h2]
    simpa using (List.take_left' (l₁ := A) (l₂ := [z] ++ X) rfl)
  · have h1 := setR_app A (y :: B') (q :: X) (B' ++ [q]) (by simp)
    have h2 := setR_app (A ++ (B' ++ [q])) [q] X [z] rfl
    simp only [List.concat_eq_append, List.length_append, List.length_singleton] at *
    rw [show A ++ y :: (B' ++ [q]) ++ X = A ++ (y :: B' ++ q :: X) by simp, h1]
    rw [show A ++ (B' ++ [q] ++ q :: X) = A ++ (B' ++ [q]) ++ ([q] ++ X) by simp, h2]
    rw [show A ++ (B' ++ [q]) ++ ([z] ++ X) = (A ++ (B' ++ [q])) ++ ([z] ++ X) by simp]
    exact List.take_left' (by simp)
end Go.V
/- An element is put into a list. Nothing is assumed. -/
set_option linter.unusedVariables false
set_option linter.unusedSimpArgs false
set_option maxRecDepth 20000
set_option pp.deepTerms false
namespace Go.V
open Go.Proofs

theorem c149 (t : Nat) (l : List Block) (b : Block) (i : Nat) (hi : i ≤ l.length) (hl : few l) :
    VX Tryz.prog 149 [(1, .row 42 8 (l.map Block.cs) true)] [.ref 1 8 0 l.length, .int .i64 i, .sl [Block.cs b]] (.ref t 8 0 (l.length + 1)) [(t, .row 42 8 ((l.take i ++ b :: l.drop i).map Block.cs) true)] := by
  have hlen : (l.map Block.cs).length = l.length := by simp
  have hsz : ∀ y ∈ l.map Block.cs, y.length = 8 := fun y hy => by obtain ⟨x, _, rfl⟩ := List.mem_map.1 hy; rfl
  have hon : ∀ y ∈ l.map Block.cs, ∀ c ∈ y, PV.one (fun _ => .fresh) c = true := fun y hy => by obtain ⟨x, _, rfl⟩ := List.mem_map.1 hy; simp [go_sem]
  have hpu : ∀ y ∈ l.map Block.cs, ∀ c ∈ y, c.pure1 = true := fun y hy => by obtain ⟨x, _, rfl⟩ := List.mem_map.1 hy; simp [go_sem]
  by_cases he : i = l.length
  · subst he
    simp only [List.take_length, List.drop_length]
    refine VX.intro Tryz.func149 rfl ok149 (by simp [Tryz.f149]) ?_
    simp [go_sem, Tryz.f149, hlen]
    refine ⟨by simp at hl; omega, ?_⟩
    exact ⟨[(t, some 8002, .row 42 8 (l.map Block.cs ++ [Block.cs b]) true)], by simp [go_sem], by simp [go_sem], by simp [go_sem], by simp⟩
  · have hne : l.map Block.cs ≠ [] := by intro h; have := congrArg List.length h; simp at this; subst this; simp at hi; simp [hi] at he
    have hne' : ¬ ((i : Int) = l.length) := by omega
    have hlt : i < l.length := by omega
    have hl0 : 0 < l.length := by omega
    have w1 : IntKind.i64.wrap ((l.length : Int) + 1) = l.length + 1 := i64w _ (by simp at hl; omega)
    have w2 : IntKind.i64.wrap ((i : Int) + 1) = i + 1 := i64w _ (by simp at hl; omega)
    have w3 : IntKind.i64.wrap ((l.length : Int) + 1 - i) = l.length + 1 - i := i64w _ (by simp at hl; omega)
    refine VX_open hne fun pad => ?_
    rcases pad with _ | pad
    · refine VX.introL Tryz.func149 rfl ok149 (by simp [Tryz.f149]) ?_
      simp [go_sem, Tryz.f149, hlen, hne', hi]
      refine escK_of (esc_cap (tk := 1) (sz := 8) (lo := 0) (n := l.length) (es := l.map Block.cs) (e := 42) (by simp [go_sem]) (by simp [go_sem]) (by simp [go_sem]) (by simp [go_sem])) ?_
      have c1 : (l.length : Int) < l.length + 1 := by omega
      have c2 : ((l.length : Int) + 1 - i) = ((l.length + 1 - i : Nat) : Int) := by omega
      simp [go_sem, w1, w2, w3, hlen, c1, hi]
      refine escK_of (esc_zeros (tk := 1) (sz := 8) (n := i) (m := l.length + 1 - i) (es := l.map Block.cs) (e := 42) (zl := Block.zero.cs) (d := 10008) (kn := .i64) (k := .i64) (by simp [go_sem]) (by simp [go_sem]) (by simp [go_sem]) (by simp [go_sem]) (by simp [go_sem]) (by simp [go_sem]) (by simp [go_sem, w1, w3, c2]) (by simp [go_sem]) rfl (by simp [go_sem]; rfl) (by omega) (by omega) (by simpa using hl0) (by simp; omega) (by simp; omega) (by simp at hl; omega) (by simp [go_sem])) ?_
      have n1 : i + (l.length + 1 - i) = l.length + 1 := by omega
      have c3 : (i : Int) ≤ (l.length : Int) + 1 := by omega
      have t1 : List.take (l.length + 1 - i) [Block.cs b] = [Block.cs b] := List.take_of_length_le (by simp; omega)
      simp [go_sem, w1, w2, w3, hlen, c1, hi, n1, c3]
      have c4 : (0 : Int) ≤ (i : Int) + 1 := by omega
      have c5 : i + (l.length - i) = l.length := by omega
      have t2 : ((l.map Block.cs).drop i).take (l.length - i) = (l.map Block.cs).drop i := List.take_of_length_le (by simp)
      obtain ⟨R1, hR1⟩ : ∃ R, R = setR ((l.map Block.cs).take i ++ List.replicate (l.length + 1 - i) Block.zero.cs) i [Block.cs b] := ⟨_, rfl⟩
      have s1 : R1.length = l.length + 1 := by rw [hR1, setR_length _ _ _ (by simp; omega)]; simp; omega
      obtain ⟨R2, hR2⟩ : ∃ R, R = setR R1 (i + 1) ((l.map Block.cs).drop i) := ⟨_, rfl⟩
      have s2 : R2 = (l.map Block.cs).take i ++ Block.cs b :: (l.map Block.cs).drop i := by rw [hR2, hR1, ← hlen]; exact ins_grow _ i _ _ (by rw [hlen]; exact hlt)
      refine escK_of (esc_copy (tk := 10008) (sz := 8) (lo := i) (n := l.length + 1 - i) (e := 42) (ys := [Block.cs b]) (tok := .row 42 8 R1 true) (by simp [go_sem]) (by simp [go_sem]) (by simp [go_sem]) (by simp [go_sem]) (by simp [go_sem, srcsA]) (by simp) (by rw [t1]; simp [go_sem]) (by simp [go_sem, cpTok, t1, hR1]; omega) (by omega) (by simp)) ?_
      simp [go_sem, w1, w2, w3, hlen, c1, hi, n1, c3, c4]
      refine escK_of (esc_copy (tk := 10008) (sz := 8) (lo := i + 1) (n := l.length - i) (e := 42) (ys := (l.map Block.cs).drop i) (tok := .row 42 8 R2 true) (by simp [go_sem]) (by simp [go_sem]) (by simp [go_sem]) (by simp [go_sem]) (by simp [go_sem, srcsA, t2, c5]) (fun y hy => hsz y (List.mem_of_mem_drop hy)) (fun y hy => hon y (List.mem_of_mem_drop (List.mem_of_mem_take hy))) (by simp [go_sem, cpTok, t2, hR2, s1]; omega) (by omega) (by simp; omega)) ?_
      simp [go_sem, w1, w2, w3, hlen, c1, hi, n1, c3, c4]
      refine drawK_of (by kernel_rfl) ?_
      simp [go_sem, w1, w2, w3, hlen, c1, hi, n1, c3, c4]
      refine FinL.of ?_
      rw [s2]
      simp [go_sem]
      exact ⟨[(t, some 10008, .row 42 8 ((l.map Block.cs).take i ++ Block.cs b :: (l.map Block.cs).drop i) true)], by simp [go_sem], by simp [go_sem]; exact ⟨fun x hx => hpu x (List.mem_of_mem_take hx), fun x hx => hpu x (List.mem_of_mem_drop hx)⟩, by simp [go_sem], by simp⟩
    · obtain ⟨X, hX⟩ : ∃ X, X = List.replicate (pad + 1) (List.replicate 8 PV.any) := ⟨_, rfl⟩
      have hXl : X.length = pad + 1 := by rw [hX]; simp
      have hX0 : X ≠ [] := by intro h; rw [h] at hXl; simp at hXl
      have hXs : ∀ y ∈ X, y.length = 8 := fun y hy => by rw [hX] at hy; rw [List.eq_of_mem_replicate hy]; simp
      rw [← hX]
      obtain ⟨E, hE⟩ : ∃ E, E = l.map Block.cs ++ X := ⟨_, rfl⟩
      have hEl : E.length = l.length + (pad + 1) := by rw [hE]; simp [hXl]
      have hEs : ∀ y ∈ E, y.length = 8 := fun y hy => by
        rw [hE] at hy
        rcases List.mem_append.1 hy with h | h
        · exact hsz y h
        · exact hXs y h
      rw [← hE]
      refine VX.introL Tryz.func149 rfl ok149 (by simp [Tryz.f149]) ?_
      have d1 : i ≤ l.length + (pad + 1) := by omega
      simp [go_sem, Tryz.f149, hlen, hne', hi, hEl, d1]
      refine escK_of (esc_cap (tk := 1) (sz := 8) (lo := 0) (n := l.length) (es := E) (e := 42) (by simp [go_sem]) (by simp [go_sem]) (by simp [go_sem]) (by simp [go_sem])) ?_
      have c6 : ¬ ((l.length : Int) + (pad + 1) < l.length + 1) := by omega
      have c7 : (0 : Int) ≤ (l.length : Int) + 1 ∧ (l.length : Int) + 1 ≤ (l.length : Int) + ((pad : Int) + 1) := by omega
      have c4 : (0 : Int) ≤ (i : Int) + 1 := by omega
      simp [go_sem, w1, w2, w3, hlen, hEl, c6, c7, c4, hi]
      have hEn : E ≠ [] := by intro h; rw [h] at hEl; simp at hEl
      refine callK_esc ?_
      refine ⟨rfl, _, _, _, esc_overlaps (fn := Tryz.f177) (tS := 22) (tR := 4) (e := 42) (e' := 42) (tk := 1) (sz := 8) (sz' := 8) (lo := i + 1) (n := l.length - i) (es := E) (ys := [Block.cs b]) Tryz.func177 (by kernel_rfl) (by kernel_rfl) (by kernel_rfl) (by kernel_rfl) (by simp [go_sem]) (by simp [go_sem]) (by simp [go_sem]) (by simp) (by simp [go_sem]) (by simp [go_sem]) (by simp [go_sem]) hEn, by simp [go_sem], ?_⟩
      have c3 : (i : Int) ≤ (l.length : Int) + 1 := by omega
      have c5 : i + (l.length + 1 - i) ≤ l.length + (pad + 1) := by omega
      have t1 : List.take (l.length + 1 - i) [Block.cs b] = [Block.cs b] := List.take_of_length_le (by simp; omega)
      have t3 : ((E.drop i).take (l.length + 1 - i)).take (l.length - i) = (l.map Block.cs).drop i := by
        rw [hE, List.drop_append_of_le_length (by rw [hlen]; exact hi), List.take_take, Nat.min_eq_left (by omega)]
        exact List.take_left' (by simp)
      obtain ⟨R1, hR1⟩ : ∃ R, R = setR E (i + 1) ((l.map Block.cs).drop i) := ⟨_, rfl⟩
      have s1 : R1.length = l.length + (pad + 1) := by rw [hR1, setR_length _ _ _ (by simp; omega), hEl]
      obtain ⟨R2, hR2⟩ : ∃ R, R = setR R1 i [Block.cs b] := ⟨_, rfl⟩
      have s2 : R2.take (l.length + 1) = (l.map Block.cs).take i ++ Block.cs b :: (l.map Block.cs).drop i := by
        have := ins_place (l.map Block.cs) X i (Block.cs b) (by rw [hlen]; exact hlt) hX0
        rw [hlen, ← hE, t3] at this
        rw [hR2, hR1]; exact this
      simp [go_sem, w1, w2, w3, hlen, hEl, c6, c7, c4, hi, c3]
      refine escK_of (esc_copy (tk := 1) (sz := 8) (lo := i + 1) (n := l.length - i) (e := 42) (ys := (E.drop i).take (l.length + 1 - i)) (tok := .arr 42 8 R1) (by simp [go_sem]) (by simp [go_sem]) (by simp [go_sem]) (by simp [go_sem]) (by simp [go_sem, srcsA, hEl, c5]) (fun y hy => hEs y (List.mem_of_mem_drop (List.mem_of_mem_take hy))) (by rw [t3]; exact fun y hy => hon y (List.mem_of_mem_drop hy)) (by rw [t3]; simp [go_sem, cpTok, hR1, hEl]; omega) (by omega) (by intro h; have := congrArg List.length h; simp [hEl] at this; omega)) ?_
      simp [go_sem, w1, w2, w3, hlen, hEl, c6, c7, c4, hi, c3, s1]
      refine drawK_of (by kernel_rfl) ?_
      simp [go_sem, w1, w2, w3, hlen, hEl, c6, c7, c4, hi, c3, s1]
      refine escK_of (esc_copy (tk := 1) (sz := 8) (lo := i) (n := l.length + 1 - i) (e := 42) (ys := [Block.cs b]) (tok := .arr 42 8 R2) (by simp [go_sem]) (by simp [go_sem]) (by simp [go_sem]) (by simp [go_sem]) (by simp [go_sem, srcsA]) (by simp) (by rw [t1]; simp [go_sem]) (by simp [go_sem, cpTok, t1, hR2, s1]; omega) (by omega) (by simp)) ?_
      simp [go_sem, w1, w2, w3, hlen, hEl, c6, c7, c4, hi, c3, s1]
      refine FinL.shut (t := 1) (sz := 8) (el := 42) (es := R2) (l.length + 1) (by simp [go_sem]) ?_
      rw [s2]
      simp [go_sem]
      exact ⟨[(t, some 1, .row 42 8 ((l.map Block.cs).take i ++ Block.cs b :: (l.map Block.cs).drop i) true)], by simp [go_sem], by simp [go_sem]; exact ⟨fun x hx => hpu x (List.mem_of_mem_take hx), fun x hx => hpu x (List.mem_of_mem_drop hx)⟩, by simp [go_sem], by simp⟩
theorem c104 (t : Nat) (l : List Host) (b : Host) (i : Nat) (hi : i ≤ l.length) (hl : few l) :
    VX Tryz.prog 104 [(1, .row 44 5 (l.map Host.cs) true)] [.ref 1 5 0 l.length, .int .i64 i, .sl [Host.cs b]] (.ref t 5 0 (l.length + 1)) [(t, .row 44 5 ((l.take i ++ b :: l.drop i).map Host.cs) true)] := by
  have hlen : (l.map Host.cs).length = l.length := by simp
  have hsz : ∀ y ∈ l.map Host.cs, y.length = 5 := fun y hy => by obtain ⟨x, _, rfl⟩ := List.mem_map.1 hy; rfl
  have hon : ∀ y ∈ l.map Host.cs, ∀ c ∈ y, PV.one (fun _ => .fresh) c = true := fun y hy => by obtain ⟨x, _, rfl⟩ := List.mem_map.1 hy; simp [go_sem]
  have hpu : ∀ y ∈ l.map Host.cs, ∀ c ∈ y, c.pure1 = true := fun y hy => by obtain ⟨x, _, rfl⟩ := List.mem_map.1 hy; simp [go_sem]
  by_cases he : i = l.length
  · subst he
    simp only [List.take_length, List.drop_length]
    refine VX.intro Tryz.func104 rfl ok104 (by simp [Tryz.f104]) ?_
    simp [go_sem, Tryz.f104, hlen]
    refine ⟨by simp at hl; omega, ?_⟩
    exact ⟨[(t, some 8002, .row 44 5 (l.map Host.cs ++ [Host.cs b]) true)], by simp [go_sem], by simp [go_sem], by simp [go_sem], by simp⟩
  · have hne : l.map Host.cs ≠ [] := by intro h; have := congrArg List.length h; simp at this; subst this; simp at hi; simp [hi] at he
    have hne' : ¬ ((i : Int) = l.length) := by omega
    have hlt : i < l.length := by omega
    have hl0 : 0 < l.length := by omega
    have w1 : IntKind.i64.wrap ((l.length : Int) + 1) = l.length + 1 := i64w _ (by simp at hl; omega)
    have w2 : IntKind.i64.wrap ((i : Int) + 1) = i + 1 := i64w _ (by simp at hl; omega)
    have w3 : IntKind.i64.wrap ((l.length : Int) + 1 - i) = l.length + 1 - i := i64w _ (by simp at hl; omega)
    refine VX_open hne fun pad => ?_
    rcases pad with _ | pad
    · refine VX.introL Tryz.func104 rfl ok104 (by simp [Tryz.f104]) ?_
      simp [go_sem, Tryz.f104, hlen, hne', hi]
      refine escK_of (esc_cap (tk := 1) (sz := 5) (lo := 0) (n := l.length) (es := l.map Host.cs) (e := 44) (by simp [go_sem]) (by simp [go_sem]) (by simp [go_sem]) (by simp [go_sem])) ?_
      have c1 : (l.length : Int) < l.length + 1 := by omega
      have c2 : ((l.length : Int) + 1 - i) = ((l.length + 1 - i : Nat) : Int) := by omega
      simp [go_sem, w1, w2, w3, hlen, c1, hi]
      refine escK_of (esc_zeros (tk := 1) (sz := 5) (n := i) (m := l.length + 1 - i) (es := l.map Host.cs) (e := 44) (zl := Host.zero.cs) (d := 10008) (kn := .i64) (k := .i64) (by simp [go_sem]) (by simp [go_sem]) (by simp [go_sem]) (by simp [go_sem]) (by simp [go_sem]) (by simp [go_sem]) (by simp [go_sem, w1, w3, c2]) (by simp [go_sem]) rfl (by simp [go_sem]; rfl) (by omega) (by omega) (by simpa using hl0) (by simp; omega) (by simp; omega) (by simp at hl; omega) (by simp [go_sem])) ?_
      have n1 : i + (l.length + 1 - i) = l.length + 1 := by omega
      have c3 : (i : Int) ≤ (l.length : Int) + 1 := by omega
      have t1 : List.take (l.length + 1 - i) [Host.cs b] = [Host.cs b] := List.take_of_length_le (by simp; omega)
      simp [go_sem, w1, w2, w3, hlen, c1, hi, n1, c3]
      have c4 : (0 : Int) ≤ (i : Int) + 1 := by omega
      have c5 : i + (l.length - i) = l.length := by omega
      have t2 : ((l.map Host.cs).drop i).take (l.length - i) = (l.map Host.cs).drop i := List.take_of_length_le (by simp)
      obtain ⟨R1, hR1⟩ : ∃ R, R = setR ((l.map Host.cs).take i ++ List.replicate (l.length + 1 - i) Host.zero.cs) i [Host.cs b] := ⟨_, rfl⟩
      have s1 : R1.length = l.length + 1 := by rw [hR1, setR_length _ _ _ (by simp; omega)]; simp; omega
      obtain ⟨R2, hR2⟩ : ∃ R, R = setR R1 (i + 1) ((l.map Host.cs).drop i) := ⟨_, rfl⟩
      have s2 : R2 = (l.map Host.cs).take i ++ Host.cs b :: (l.map Host.cs).drop i := by rw [hR2, hR1, ← hlen]; exact ins_grow _ i _ _ (by rw [hlen]; exact hlt)
      refine escK_of (esc_copy (tk := 10008) (sz := 5) (lo := i) (n := l.length + 1 - i) (e := 44) (ys := [Host.cs b]) (tok := .row 44 5 R1 true) (by simp [go_sem]) (by simp [go_sem]) (by simp [go_sem]) (by simp [go_sem]) (by simp [go_sem, srcsA]) (by simp) (by rw [t1]; simp [go_sem]) (by simp [go_sem, cpTok, t1, hR1]; omega) (by omega) (by simp)) ?_
      simp [go_sem, w1, w2, w3, hlen, c1, hi, n1, c3, c4]
      refine escK_of (esc_copy (tk := 10008) (sz := 5) (lo := i + 1) (n := l.length - i) (e := 44) (ys := (l.map Host.cs).drop i) (tok := .row 44 5 R2 true) (by simp [go_sem]) (by simp [go_sem]) (by simp [go_sem]) (by simp [go_sem]) (by simp [go_sem, srcsA, t2, c5]) (fun y hy => hsz y (List.mem_of_mem_drop hy)) (fun y hy => hon y (List.mem_of_mem_drop (List.mem_of_mem_take hy))) (by simp [go_sem, cpTok, t2, hR2, s1]; omega) (by omega) (by simp; omega)) ?_
      simp [go_sem, w1, w2, w3, hlen, c1, hi, n1, c3, c4]
      refine drawK_of (by kernel_rfl) ?_
      simp [go_sem, w1, w2, w3, hlen, c1, hi, n1, c3, c4]
      refine FinL.of ?_
      rw [s2]
      simp [go_sem]
      exact ⟨[(t, some 10008, .row 44 5 ((l.map Host.cs).take i ++ Host.cs b :: (l.map Host.cs).drop i) true)], by simp [go_sem], by simp [go_sem]; exact ⟨fun x hx => hpu x (List.mem_of_mem_take hx), fun x hx => hpu x (List.mem_of_mem_drop hx)⟩, by simp [go_sem], by simp⟩
    · obtain ⟨X, hX⟩ : ∃ X, X = List.replicate (pad + 1) (List.replicate 5 PV.any) := ⟨_, rfl⟩
      have hXl : X.length = pad + 1 := by rw [hX]; simp
      have hX0 : X ≠ [] := by intro h; rw [h] at hXl; simp at hXl
      have hXs : ∀ y ∈ X, y.length = 5 := fun y hy => by rw [hX] at hy; rw [List.eq_of_mem_replicate hy]; simp
      rw [← hX]
      obtain ⟨E, hE⟩ : ∃ E, E = l.map Host.cs ++ X := ⟨_, rfl⟩
      have hEl : E.length = l.length + (pad + 1) := by rw [hE]; simp [hXl]
      have hEs : ∀ y ∈ E, y.length = 5 := fun y hy => by
        rw [hE] at hy
        rcases List.mem_append.1 hy with h | h
        · exact hsz y h
        · exact hXs y h
      rw [← hE]
      refine VX.introL Tryz.func104 rfl ok104 (by simp [Tryz.f104]) ?_
      have d1 : i ≤ l.length + (pad + 1) := by omega
      simp [go_sem, Tryz.f104, hlen, hne', hi, hEl, d1]
      refine escK_of (esc_cap (tk := 1) (sz := 5) (lo := 0) (n := l.length) (es := E) (e := 44) (by simp [go_sem]) (by simp [go_sem]) (by simp [go_sem]) (by simp [go_sem])) ?_
      have c6 : ¬ ((l.length : Int) + (pad + 1) < l.length + 1) := by omega
      have c7 : (0 : Int) ≤ (l.length : Int) + 1 ∧ (l.length : Int) + 1 ≤ (l.length : Int) + ((pad : Int) + 1) := by omega
      have c4 : (0 : Int) ≤ (i : Int) + 1 := by omega
      simp [go_sem, w1, w2, w3, hlen, hEl, c6, c7, c4, hi]
      have hEn : E ≠ [] := by intro h; rw [h] at hEl; simp at hEl
      refine callK_esc ?_
      refine ⟨rfl, _, _, _, esc_overlaps (fn := Tryz.f161) (tS := 23) (tR := 4) (e := 44) (e' := 44) (tk := 1) (sz := 5) (sz' := 5) (lo := i + 1) (n := l.length - i) (es := E) (ys := [Host.cs b]) Tryz.func161 (by kernel_rfl) (by kernel_rfl) (by kernel_rfl) (by kernel_rfl) (by simp [go_sem]) (by simp [go_sem]) (by simp [go_sem]) (by simp) (by simp [go_sem]) (by simp [go_sem]) (by simp [go_sem]) hEn, by simp [go_sem], ?_⟩
      have c3 : (i : Int) ≤ (l.length : Int) + 1 := by omega
      have c5 : i + (l.length + 1 - i) ≤ l.length + (pad + 1) := by omega
      have t1 : List.take (l.length + 1 - i) [Host.cs b] = [Host.cs b] := List.take_of_length_le (by simp; omega)
      have t3 : ((E.drop i).take (l.length + 1 - i)).take (l.length - i) = (l.map Host.cs).drop i := by
        rw [hE, List.drop_append_of_le_length (by rw [hlen]; exact hi), List.take_take, Nat.min_eq_left (by omega)]
        exact List.take_left' (by simp)
      obtain ⟨R1, hR1⟩ : ∃ R, R = setR E (i + 1) ((l.map Host.cs).drop i) := ⟨_, rfl⟩
      have s1 : R1.length = l.length + (pad + 1) := by rw [hR1, setR_length _ _ _ (by simp; omega), hEl]
      obtain ⟨R2, hR2⟩ : ∃ R, R = setR R1 i [Host.cs b] := ⟨_, rfl⟩
      have s2 : R2.take (l.length + 1) = (l.map Host.cs).take i ++ Host.cs b :: (l.map Host.cs).drop i := by
        have := ins_place (l.map Host.cs) X i (Host.cs b) (by rw [hlen]; exact hlt) hX0
        rw [hlen, ← hE, t3] at this
        rw [hR2, hR1]; exact this
      simp [go_sem, w1, w2, w3, hlen, hEl, c6, c7, c4, hi, c3]
      refine escK_of (esc_copy (tk := 1) (sz := 5) (lo := i + 1) (n := l.length - i) (e := 44) (ys := (E.drop i).take (l.length + 1 - i)) (tok := .arr 44 5 R1) (by simp [go_sem]) (by simp [go_sem]) (by simp [go_sem]) (by simp [go_sem]) (by simp [go_sem, srcsA, hEl, c5]) (fun y hy => hEs y (List.mem_of_mem_drop (List.mem_of_mem_take hy))) (by rw [t3]; exact fun y hy => hon y (List.mem_of_mem_drop hy)) (by rw [t3]; simp [go_sem, cpTok, hR1, hEl]; omega) (by omega) (by intro h; have := congrArg List.length h; simp [hEl] at this; omega)) ?_
      simp [go_sem, w1, w2, w3, hlen, hEl, c6, c7, c4, hi, c3, s1]
      refine drawK_of (by kernel_rfl) ?_
      simp [go_sem, w1, w2, w3, hlen, hEl, c6, c7, c4, hi, c3, s1]
      refine escK_of (esc_copy (tk := 1) (sz := 5) (lo := i) (n := l.length + 1 - i) (e := 44) (ys := [Host.cs b]) (tok := .arr 44 5 R2) (by simp [go_sem]) (by simp [go_sem]) (by simp [go_sem]) (by simp [go_sem]) (by simp [go_sem, srcsA]) (by simp) (by rw [t1]; simp [go_sem]) (by simp [go_sem, cpTok, t1, hR2, s1]; omega) (by omega) (by simp)) ?_
      simp [go_sem, w1, w2, w3, hlen, hEl, c6, c7, c4, hi, c3, s1]
      refine FinL.shut (t := 1) (sz := 5) (el := 44) (es := R2) (l.length + 1) (by simp [go_sem]) ?_
      rw [s2]
      simp [go_sem]
      exact ⟨[(t, some 1, .row 44 5 ((l.map Host.cs).take i ++ Host.cs b :: (l.map Host.cs).drop i) true)], by simp [go_sem], by simp [go_sem]; exact ⟨fun x hx => hpu x (List.mem_of_mem_take hx), fun x hx => hpu x (List.mem_of_mem_drop hx)⟩, by simp [go_sem], by simp⟩
end Go.V
/- An element is taken out of a list. Nothing is assumed. -/
set_option linter.unusedVariables false
set_option linter.unusedSimpArgs false
set_option maxRecDepth 20000
set_option pp.deepTerms false
namespace Go.V
open Go.Proofs

theorem c150 (t : Nat) (l : List Block) (i : Nat) (hi : i < l.length) (hl : few l) :
    VX Tryz.prog 150 [(1, .row 42 8 (l.map Block.cs) true)] [.ref 1 8 0 l.length, .int .i64 i, .int .i64 ((i : Int) + 1)] (.ref t 8 0 (l.length - 1)) [(t, .row 42 8 ((l.take i ++ l.drop (i + 1)).map Block.cs) true)] := by
  have hlen : (l.map Block.cs).length = l.length := by simp
  have hsz : ∀ y ∈ l.map Block.cs, y.length = 8 := fun y hy => by obtain ⟨x, _, rfl⟩ := List.mem_map.1 hy; rfl
  have hon : ∀ y ∈ l.map Block.cs, ∀ c ∈ y, PV.one (fun _ => .fresh) c = true := fun y hy => by obtain ⟨x, _, rfl⟩ := List.mem_map.1 hy; simp [go_sem]
  have hpu : ∀ y ∈ l.map Block.cs, ∀ c ∈ y, c.pure1 = true := fun y hy => by obtain ⟨x, _, rfl⟩ := List.mem_map.1 hy; simp [go_sem]
  have hne : l.map Block.cs ≠ [] := by intro h; have := congrArg List.length h; simp at this; subst this; simp at hi
  refine VX_open hne fun pad => ?_
  obtain ⟨X, hX⟩ : ∃ X, X = List.replicate pad (List.replicate 8 PV.any) := ⟨_, rfl⟩
  have hXl : X.length = pad := by rw [hX]; simp
  rw [← hX]
  obtain ⟨E, hE⟩ : ∃ E, E = l.map Block.cs ++ X := ⟨_, rfl⟩
  have hEl : E.length = l.length + pad := by rw [hE]; simp [hXl]
  rw [← hE]
  have t3 : (E.drop (i + 1)).take (l.length - (i + 1)) = (l.map Block.cs).drop (i + 1) := by
    rw [hE, List.drop_append_of_le_length (by rw [hlen]; exact hi)]
    exact List.take_left' (by simp)
  obtain ⟨R1, hR1⟩ : ∃ R, R = setR E i ((l.map Block.cs).drop (i + 1)) := ⟨_, rfl⟩
  have s1 : R1.length = l.length + pad := by rw [hR1, setR_length _ _ _ (by simp; omega), hEl]
  obtain ⟨R2, hR2⟩ : ∃ R, R = setR R1 (l.length - 1) [Block.zero.cs] := ⟨_, rfl⟩
  have s2 : R2.take (l.length - 1) = (l.map Block.cs).take i ++ (l.map Block.cs).drop (i + 1) := by
    have := del_place (l.map Block.cs) X i Block.zero.cs (by rw [hlen]; exact hi)
    rw [hlen, ← hE, t3] at this
    rw [hR2, hR1]; exact this
  have c1 : ¬ ((i : Int) = i + 1) := by omega
  have c2 : (i : Int) + 1 ≤ l.length := by omega
  have c3 : (0 : Int) ≤ (i : Int) + 1 := by omega
  have c4 : i ≤ l.length := by omega
  have c5 : i + 1 ≤ l.length := hi
  have c6 : i ≤ l.length + pad := by omega
  have c7 : i + 1 + (l.length - (i + 1)) = l.length := by omega
  refine VX.introL Tryz.func150 rfl ok150 (by simp [Tryz.f150]) ?_
  simp [go_sem, Tryz.f150, hlen]
  refine escK_of (esc_slice3 (tk := 1) (sz := 8) (l := 0) (n := l.length) (es := E) (e := 42) (k1 := .i64) (k2 := .i64) (k3 := .i64) (i := i) (j := (i : Int) + 1) (m := l.length) (by simp [go_sem]) (by simp [go_sem]) (by simp [go_sem]) (by simp [go_sem]) (by simp [go_sem]) (by simp [go_sem]) (by simp [go_sem]) (by simp [go_sem]) (by simp [go_sem]) (by simp [go_sem]) (by omega)) ?_
  have c8 : (i : Int) ≤ (l.length : Int) + pad := by omega
  have c9 : i + 1 + (l.length - (i + 1)) ≤ l.length + pad := by omega
  simp [go_sem, hlen, hEl, c1, c2, c3, c4, c5, c6, c8]
  refine escA_of (tk := 1) (sz := 8) (lo := 0) (n := i) (by simp [go_sem]) (by simp [go_sem]) (esc_append (tk := 1) (sz := 8) (n := i) (es := E) (e := 42) (ys := (l.map Block.cs).drop (i + 1)) (by simp [go_sem]) (by simp [go_sem]) (by simp [go_sem]) (by simp [go_sem]) (by simp [go_sem]) (by simp [go_sem, srcsA, hEl, c9, t3]) (fun y hy => hsz y (List.mem_of_mem_drop hy)) (fun y hy => hon y (List.mem_of_mem_drop hy)) (by simp [hEl]; omega) (by omega)) (by simp [go_sem]) ?_
  have n1 : i + (l.length - (i + 1)) = l.length - 1 := by omega
  rw [← hR1]
  simp [go_sem, hlen, hEl, c1, c2, c3, c4, c5, c6, c8, n1, s1]
  refine drawK_of (by kernel_rfl) ?_
  have b1 : ((l.length - 1 : Nat) : Int) ≤ l.length := by omega
  have b2 : (l.length : Int) ≤ (l.length : Int) + pad := by omega
  have b3 : l.length - (l.length - 1) = 1 := by omega
  have b4 : l.length - 1 ≤ l.length + pad := by omega
  simp [go_sem, hlen, hEl, c1, c2, c3, c4, c5, c6, c8, n1, s1, b1, b2, b3, b4]
  refine escK_of (esc_clear (tk := 1) (sz := 8) (lo := l.length - 1) (n := 1) (es := R1) (e := 42) (zl := Block.zero.cs) (by simp [go_sem]) (by simp [go_sem]) (by simp [go_sem]) (by simp [go_sem]) (by simp [go_sem]) rfl (fun z hz v hv => ofValue_one (by
    have h1 : PV.ofValue v ∈ Block.zero.cs := by rw [hz]; exact List.mem_map_of_mem hv
    revert h1; generalize PV.ofValue v = y; intro h1; simp at h1; rcases h1 with rfl | rfl | rfl | rfl | rfl <;> rfl)) (by omega) (by omega)) ?_
  simp [go_sem, hlen, hEl, c1, c2, c3, c4, c5, c6, c8, n1, s1, b1, b2, b3, b4]
  refine FinL.shut (t := 1) (sz := 8) (el := 42) (es := R2) (l.length - 1) (by simp [go_sem]; rw [hR2]; simp [setR]) ?_
  rw [s2]
  simp [go_sem]
  exact ⟨[(t, some 1, .row 42 8 ((l.map Block.cs).take i ++ (l.map Block.cs).drop (i + 1)) true)], by simp [go_sem], by simp [go_sem]; exact ⟨fun x hx => hpu x (List.mem_of_mem_take hx), fun x hx => hpu x (List.mem_of_mem_drop hx)⟩, by simp [go_sem], by simp⟩
theorem c105 (t : Nat) (l : List Host) (i : Nat) (hi : i < l.length) (hl : few l) :
    VX Tryz.prog 105 [(1, .row 44 5 (l.map Host.cs) true)] [.ref 1 5 0 l.length, .int .i64 i, .int .i64 ((i : Int) + 1)] (.ref t 5 0 (l.length - 1)) [(t, .row 44 5 ((l.take i ++ l.drop (i + 1)).map Host.cs) true)] := by
  have hlen : (l.map Host.cs).length = l.length := by simp
  have hsz : ∀ y ∈ l.map Host.cs, y.length = 5 := fun y hy => by obtain ⟨x, _, rfl⟩ := List.mem_map.1 hy; rfl
  have hon : ∀ y ∈ l.map Host.cs, ∀ c ∈ y, PV.one (fun _ => .fresh) c = true := fun y hy => by obtain ⟨x, _, rfl⟩ := List.mem_map.1 hy; simp [go_sem]
  have hpu : ∀ y ∈ l.map Host.cs, ∀ c ∈ y, c.pure1 = true := fun y hy => by obtain ⟨x, _, rfl⟩ := List.mem_map.1 hy; simp [go_sem]
  have hne : l.map Host.cs ≠ [] := by intro h; have := congrArg List.length h; simp at this; subst this; simp at hi
  refine VX_open hne fun pad => ?_
  obtain ⟨X, hX⟩ : ∃ X, X = List.replicate pad (List.replicate 5 PV.any) := ⟨_, rfl⟩
  have hXl : X.length = pad := by rw [hX]; simp
  rw [← hX]
  obtain ⟨E, hE⟩ : ∃ E, E = l.map Host.cs ++ X := ⟨_, rfl⟩
  have hEl : E.length = l.length + pad := by rw [hE]; simp [hXl]
  rw [← hE]
  have t3 : (E.drop (i + 1)).take (l.length - (i + 1)) = (l.map Host.cs).drop (i + 1) := by
    rw [hE, List.drop_append_of_le_length (by rw [hlen]; exact hi)]
    exact List.take_left' (by simp)
  obtain ⟨R1, hR1⟩ : ∃ R, R = setR E i ((l.map Host.cs).drop (i + 1)) := ⟨_, rfl⟩
  have s1 : R1.length = l.length + pad := by rw [hR1, setR_length _ _ _ (by simp; omega), hEl]
  obtain ⟨R2, hR2⟩ : ∃ R, R = setR R1 (l.length - 1) [Host.zero.cs] := ⟨_, rfl⟩
  have s2 : R2.take (l.length - 1) = (l.map Host.cs).take i ++ (l.map Host.cs).drop (i + 1) := by
    have := del_place (l.map Host.cs) X i Host.zero.cs (by rw [hlen]; exact hi)
    rw [hlen, ← hE, t3] at this
    rw [hR2, hR1]; exact this
  have c1 : ¬ ((i : Int) = i + 1) := by omega
  have c2 : (i : Int) + 1 ≤ l.length := by omega
  have c3 : (0 : Int) ≤ (i : Int) + 1 := by omega
  have c4 : i ≤ l.length := by omega
  have c5 : i + 1 ≤ l.length := hi
  have c6 : i ≤ l.length + pad := by omega
  have c7 : i + 1 + (l.length - (i + 1)) = l.length := by omega
  refine VX.introL Tryz.func105 rfl ok105 (by simp [Tryz.f105]) ?_
  simp [go_sem, Tryz.f105, hlen]
  refine escK_of (esc_slice3 (tk := 1) (sz := 5) (l := 0) (n := l.length) (es := E) (e := 44) (k1 := .i64) (k2 := .i64) (k3 := .i64) (i := i) (j := (i : Int) + 1) (m := l.length) (by simp [go_sem]) (by simp [go_sem]) (by simp [go_sem]) (by simp [go_sem]) (by simp [go_sem]) (by simp [go_sem]) (by simp [go_sem]) (by simp [go_sem]) (by simp [go_sem]) (by simp [go_sem]) (by omega)) ?_
  have c8 : (i : Int) ≤ (l.length : Int) + pad := by omega
  have c9 : i + 1 + (l.length - (i + 1)) ≤ l.length + pad := by omega
  simp [go_sem, hlen, hEl, c1, c2, c3, c4, c5, c6, c8]
  refine escA_of (tk := 1) (sz := 5) (lo := 0) (n := i) (by simp [go_sem]) (by simp [go_sem]) (esc_append (tk := 1) (sz := 5) (n := i) (es := E) (e := 44) (ys := (l.map Host.cs).drop (i + 1)) (by simp [go_sem]) (by simp [go_sem]) (by simp [go_sem]) (by simp [go_sem]) (by simp [go_sem]) (by simp [go_sem, srcsA, hEl, c9, t3]) (fun y hy => hsz y (List.mem_of_mem_drop hy)) (fun y hy => hon y (List.mem_of_mem_drop hy)) (by simp [hEl]; omega) (by omega)) (by simp [go_sem]) ?_
  have n1 : i + (l.length - (i + 1)) = l.length - 1 := by omega
  rw [← hR1]
  simp [go_sem, hlen, hEl, c1, c2, c3, c4, c5, c6, c8, n1, s1]
  refine drawK_of (by kernel_rfl) ?_
  have b1 : ((l.length - 1 : Nat) : Int) ≤ l.length := by omega
  have b2 : (l.length : Int) ≤ (l.length : Int) + pad := by omega
  have b3 : l.length - (l.length - 1) = 1 := by omega
  have b4 : l.length - 1 ≤ l.length + pad := by omega
  simp [go_sem, hlen, hEl, c1, c2, c3, c4, c5, c6, c8, n1, s1, b1, b2, b3, b4]
  refine escK_of (esc_clear (tk := 1) (sz := 5) (lo := l.length - 1) (n := 1) (es := R1) (e := 44) (zl := Host.zero.cs) (by simp [go_sem]) (by simp [go_sem]) (by simp [go_sem]) (by simp [go_sem]) (by simp [go_sem]) rfl (fun z hz v hv => ofValue_one (by
    have h1 : PV.ofValue v ∈ Host.zero.cs := by rw [hz]; exact List.mem_map_of_mem hv
    revert h1; generalize PV.ofValue v = y; intro h1; simp at h1; rcases h1 with rfl | rfl | rfl | rfl | rfl <;> rfl)) (by omega) (by omega)) ?_
  simp [go_sem, hlen, hEl, c1, c2, c3, c4, c5, c6, c8, n1, s1, b1, b2, b3, b4]
  refine FinL.shut (t := 1) (sz := 5) (el := 44) (es := R2) (l.length - 1) (by simp [go_sem]; rw [hR2]; simp [setR]) ?_
  rw [s2]
  simp [go_sem]
  exact ⟨[(t, some 1, .row 44 5 ((l.map Host.cs).take i ++ (l.map Host.cs).drop (i + 1)) true)], by simp [go_sem], by simp [go_sem]; exact ⟨fun x hx => hpu x (List.mem_of_mem_take hx), fun x hx => hpu x (List.mem_of_mem_drop hx)⟩, by simp [go_sem], by simp⟩
end Go.V
/- Blocks: one is put in, or taken out. Nothing is assumed. -/
set_option linter.unusedVariables false
set_option linter.unusedSimpArgs false
set_option maxRecDepth 20000
set_option pp.deepTerms false
namespace Go.V
open Go.Proofs

@[go_sem] theorem ro_blk (d : Nat) (k : Nat → TS) : ((fun e => List.map (roS d k) e) ∘ Block.cs) = Block.cs := by funext b; simp [go_sem]
@[go_sem] theorem ro_hst (d : Nat) (k : Nat → TS) : ((fun e => List.map (roS d k) e) ∘ Host.cs) = Host.cs := by funext b; simp [go_sem]
@[go_sem] theorem de_blk (d : Nat) (k : Nat → TS) (l : List Block) : List.flatMap (fun e => List.flatMap (deS d k) e) (l.map Block.cs) = [] := by induction l <;> simp_all [go_sem]
@[go_sem] theorem de_hst (d : Nat) (k : Nat → TS) (l : List Host) : List.flatMap (fun e => List.flatMap (deS d k) e) (l.map Host.cs) = [] := by induction l <;> simp_all [go_sem]
@[go_sem] theorem de_str (d : Nat) (k : Nat → TS) (l : List Str) : List.flatMap (fun e => List.flatMap (deS d k) e) (l.map fun s => [PV.str s]) = [] := by induction l <;> simp_all [go_sem]
@[go_sem] theorem ro_str (d : Nat) (k : Nat → TS) : ((fun e => List.map (roS d k) e) ∘ fun s => [PV.str s]) = fun s => [PV.str s] := by funext b; simp [go_sem]
@[go_sem] theorem take_map_len {α β : Type} (f : α → β) (l : List α) : (l.map f).take l.length = l.map f := List.take_of_length_le (by simp)
/-- An element in its place: ahead of the first for which 'p' holds. -/
def putL {α : Type} (p : α → Bool) (b : α) (l : List α) : List α := l.take (l.findIdx p) ++ b :: l.drop (l.findIdx p)
theorem findI_idx {α : Type} (p : α → Bool) (l : List α) : findI p l = if l.findIdx p < l.length then (l.findIdx p : Int) else -1 := by
  unfold findI
  cases h : l.findIdx? p with
  | none =>
    have h1 := List.findIdx?_eq_none_iff.1 h
    have : l.findIdx p = l.length := List.findIdx_eq_length.2 (fun x hx => by simpa using h1 x hx)
    simp [this]
  | some i =>
    have h1 := List.findIdx?_eq_some_iff_findIdx_eq.1 h
    simp [h1.2, h1.1]
theorem c148 (o b : Block) : VF Tryz.prog 148 [.agg o.cs, .pro b.cs 0] (.bool (decide (0 < Prefix.cmp o.p b.p))) := by
  refine VF.intro Tryz.func148 rfl ok148 (by simp [Tryz.f148]) ?_
  simp [go_sem, Tryz.f148]
  refine callK_of (c84 _ _ _ _ _ _ _ _) ?_
  simp [go_sem]
theorem c99 (l : List Block) (b : Block) (hl : few l) : VF Tryz.prog 99 [.sl (blks l), .agg b.cs] (.sl (blks (putL (fun o => decide (0 < Prefix.cmp o.p b.p)) b l))) := by
  have e := c111 (p := fun o => decide (0 < Prefix.cmp o.p b.p)) l hl (.box b.cs 0) (fun o ho => c148 o b)
  unfold putL
  rw [findI_idx] at e
  have hle : l.findIdx (fun o => decide (0 < Prefix.cmp o.p b.p)) ≤ l.length := List.findIdx_le_length
  generalize l.findIdx (fun o => decide (0 < Prefix.cmp o.p b.p)) = i at *
  have e2 := c149 5105 l b i hle hl
  obtain ⟨L, hL⟩ : ∃ L, L = l.take i ++ b :: l.drop i := ⟨_, rfl⟩
  have hLl : l.length + 1 = L.length := by rw [hL]; simp; omega
  rw [← hL, hLl] at e2
  rw [← hL]
  by_cases hi : i < l.length
  · rw [if_pos hi] at e
    refine VF.intro Tryz.func99 rfl ok99 (by simp [Tryz.f99]) ?_
    simp [go_sem, Tryz.f99]
    refine callK_of e ?_
    have h0 : ¬ ((i : Int) < 0) := by omega
    simp [go_sem, h0]
    refine callK_x [] [] (c75 5101 l hl) rfl (by simp [go_sem]) (by simp [go_sem]) (by simp [go_sem]) (by simp [go_sem]) (by simp) (by simp [go_sem]) ?_
    simp [go_sem]
    refine callK_x [(1, some 5101, .row 42 8 (blks l) true)] [5004] e2 (by simp) (by simp [go_sem]) (by simp [go_sem]) (by simp [go_sem]) (by simp [go_sem]) (by simp [go_sem]) (by simp [go_sem]) ?_
    simp [go_sem]
    refine drawK_of (by kernel_rfl) ?_
    simp [go_sem]
  · rw [if_neg hi] at e
    obtain rfl : i = l.length := by omega
    refine VF.intro Tryz.func99 rfl ok99 (by simp [Tryz.f99]) ?_
    simp [go_sem, Tryz.f99]
    refine callK_of e ?_
    simp [go_sem]
    refine callK_x [] [] (c75 5101 l hl) rfl (by simp [go_sem]) (by simp [go_sem]) (by simp [go_sem]) (by simp [go_sem]) (by simp) (by simp [go_sem]) ?_
    simp [go_sem]
    refine callK_x [(1, some 5101, .row 42 8 (blks l) true)] [5004] e2 (by simp) (by simp [go_sem]) (by simp [go_sem]) (by simp [go_sem]) (by simp [go_sem]) (by simp [go_sem]) (by simp [go_sem]) ?_
    simp [go_sem]
    refine drawK_of (by kernel_rfl) ?_
    simp [go_sem]
theorem c100 (l : List Block) (i : Nat) (hi : i < l.length) (hl : few l) : VF Tryz.prog 100 [.sl (blks l), .int .i64 i] (.sl (blks (l.take i ++ l.drop (i + 1)))) := by
  have e2 := c150 2105 l i hi hl
  obtain ⟨L, hL⟩ : ∃ L, L = l.take i ++ l.drop (i + 1) := ⟨_, rfl⟩
  have hLl : l.length - 1 = L.length := by rw [hL]; simp; omega
  rw [← hL, hLl] at e2
  rw [← hL]
  have w : IntKind.i64.wrap ((i : Int) + 1) = (i : Int) + 1 := i64w _ (by simp at hl; omega)
  refine VF.intro Tryz.func100 rfl ok100 (by simp [Tryz.f100]) ?_
  simp [go_sem, Tryz.f100]
  refine callK_x [] [] (c75 2101 l hl) rfl (by simp [go_sem]) (by simp [go_sem]) (by simp [go_sem]) (by simp [go_sem]) (by simp) (by simp [go_sem]) ?_
  simp [go_sem, w]
  refine callK_x [(1, some 2101, .row 42 8 (blks l) true)] [] e2 (by simp) (by simp [go_sem]) (by simp [go_sem]) (by simp [go_sem]) (by simp [go_sem]) (by simp [go_sem]) (by simp [go_sem]) ?_
  simp [go_sem]
end Go.V
/- Blocks: Add and Remove. Nothing is assumed. -/
set_option linter.unusedVariables false
set_option linter.unusedSimpArgs false
set_option maxRecDepth 20000
set_option pp.deepTerms false
namespace Go.V
open Go.Proofs

def Block.err (b : Block) : Int := if b.p.ok then if b.may then 0 else 1 else 3
def addB (l : List Block) (b : Block) : List Block × Int :=
  if b.err ≠ 0 then ([], b.err) else if l.any (isP b.p) then ([], 12) else if l.any (fun o => barred b o) || l.any (fun o => lies o.p b.p) then ([], 24) else if 512 ≤ l.length then ([], 9)
  else (putL (fun o => decide (0 < Prefix.cmp o.p b.p)) b l, 0)
def removeB (l : List Block) (p : Prefix) : List Block × Int :=
  if l.any (isP p) = false then ([], 11) else if l.any (fun o => lies o.p p) then ([], 25) else (l.take (l.findIdx (isP p)) ++ l.drop (l.findIdx (isP p) + 1), 0)
theorem c40 (l : List Block) (b : Block) (hl : few l) (h1 : fits b.name) (h2 : fits b.owner) : VF Tryz.prog 40 [.sl (blks l), .agg b.cs] (.tup [.sl (blks (addB l b).1), .int .i64 (addB l b).2]) := by
  have ef := c83 b h1 h2
  have ei := c97 l b.p hl
  have fa := findI_any (isP b.p) l
  rw [show (if b.p.ok then if b.may then (0 : Int) else 1 else 3) = b.err from rfl] at ef
  generalize hr : addB l b = r
  unfold addB at hr
  have em := c85 l b hl
  have eo := c98 l b.p hl
  rw [← fa] at hr
  generalize findI (isP b.p) l = j at *
  generalize (l.any fun o => barred b o) = q1 at *
  generalize (l.any fun o => lies o.p b.p) = q2 at *
  generalize b.err = e0 at *
  refine VF.intro Tryz.func40 rfl ok40 (by simp [Tryz.f40]) ?_
  simp [go_sem, Tryz.f40]
  refine callK_of ef ?_
  simp [go_sem]
  refine ⟨fun h => by rw [if_pos h] at hr; subst hr; simp, fun h => ?_⟩
  rw [if_neg (by simpa using h)] at hr
  refine callK_of ei ?_
  simp [go_sem]
  refine ⟨fun h => by rw [if_pos (by simpa using h)] at hr; subst hr; simp, fun h => ?_⟩
  rw [if_neg (by simp; omega)] at hr
  refine callK_of em ?_
  simp [go_sem]
  refine callK_if (fun hg => eo) ?_
  simp [go_sem]
  refine ⟨fun h => by rw [if_pos (by simpa using h)] at hr; subst hr; simp, fun h h' => ?_⟩
  rw [if_neg (by simp [h, h'])] at hr
  refine ⟨fun h => by rw [if_pos (by omega)] at hr; subst hr; simp, fun h => ?_⟩
  rw [if_neg (by omega)] at hr
  refine callK_of (c99 l b hl) ?_
  subst hr
  simp [go_sem]
theorem c41 (l : List Block) (p : Prefix) (hl : few l) : VF Tryz.prog 41 [.sl (blks l), .agg p.cs] (.tup [.sl (blks (removeB l p).1), .int .i64 (removeB l p).2]) := by
  have ei := c97 l p hl
  have eo := c98 l p hl
  have fa := findI_any (isP p) l
  have fi := findI_idx (isP p) l
  generalize hr : removeB l p = r
  unfold removeB at hr
  rw [← fa] at hr
  generalize findI (isP p) l = j at *
  generalize (l.any fun o => lies o.p p) = q2 at *
  refine VF.intro Tryz.func41 rfl ok41 (by simp [Tryz.f41]) ?_
  simp [go_sem, Tryz.f41]
  refine callK_of ei ?_
  simp [go_sem]
  refine ⟨fun h => by rw [if_pos (by simpa using h)] at hr; subst hr; simp, fun h => ?_⟩
  rw [if_neg (by simp; omega)] at hr
  refine callK_of eo ?_
  simp [go_sem]
  refine ⟨fun h => by rw [if_pos (by simpa using h)] at hr; subst hr; simp, fun h => ?_⟩
  rw [if_neg (by simp [h])] at hr
  have hlt : l.findIdx (isP p) < l.length := by
    rcases Nat.lt_or_ge (l.findIdx (isP p)) l.length with h | h
    · exact h
    · rw [if_neg (by omega)] at fi; omega
  rw [if_pos hlt] at fi
  subst fi
  refine callK_of (c100 l (l.findIdx (isP p)) hlt hl) ?_
  subst hr
  simp [go_sem]
end Go.V
/- Changes: the fields that are used; spaces of one's own. Nothing is assumed. -/
set_option linter.unusedVariables false
set_option linter.unusedSimpArgs false
set_option maxRecDepth 20000
set_option pp.deepTerms false
namespace Go.V
open Go.Proofs

structure Change where (kind : Int) (block : Block) (bits policy : Int) (host : Host) (text : Str)
deriving DecidableEq
@[go_sem] theorem Change.eta (c : Change) : Change.mk c.kind c.block c.bits c.policy c.host c.text = c := rfl
abbrev Change.cs (c : Change) : List PV := [.int .i64 c.kind, .bool c.block.p.addr.v6, .int .u64 c.block.p.addr.hi, .int .u64 c.block.p.addr.lo, .int .i64 c.block.p.bits, .int .i64 c.block.kind, .str c.block.name, .str c.block.owner, .int .i64 c.block.til,
  .int .i64 c.bits, .int .i64 c.policy, .str c.host.name, .bool c.host.addr.v6, .int .u64 c.host.addr.hi, .int .u64 c.host.addr.lo, .int .i64 c.host.ttl, .str c.text]
def Change.zero : Change := ⟨0, .zero, 0, 0, .zero, []⟩
@[simp, go_sem] theorem Change.zero_kind : Change.zero.kind = 0 := rfl
@[simp, go_sem] theorem Change.zero_block : Change.zero.block = .zero := rfl
@[simp, go_sem] theorem Change.zero_bits : Change.zero.bits = 0 := rfl
@[simp, go_sem] theorem Change.zero_policy : Change.zero.policy = 0 := rfl
@[simp, go_sem] theorem Change.zero_host : Change.zero.host = .zero := rfl
@[simp, go_sem] theorem Change.zero_text : Change.zero.text = [] := rfl
abbrev chgs (l : List Change) : List (List PV) := l.map Change.cs
/-- What a kind uses. -/
def Change.used (c : Change) : Change :=
  if c.kind = 1 then { Change.zero with kind := 1, block := c.block }
  else if c.kind = 2 then { Change.zero with kind := 2, block := { Block.zero with p := c.block.p } }
  else if c.kind = 3 then { Change.zero with kind := 3, block := { Block.zero with p := c.block.p, name := c.block.name, owner := c.block.owner }, bits := c.bits, policy := c.policy }
  else if c.kind = 4 then { Change.zero with kind := 4, host := c.host }
  else if c.kind = 5 then { Change.zero with kind := 5, host := { c.host with ttl := 0 } }
  else if c.kind = 6 then { Change.zero with kind := 6, host := { c.host with ttl := 0 }, text := c.text }
  else { Change.zero with kind := c.kind }
def Change.known (c : Change) : Bool := decide (1 ≤ c.kind) && decide (c.kind ≤ 6)
theorem c39 (c : Change) : VF Tryz.prog 39 [.agg c.cs] (.tup [.agg c.used.cs, .bool c.known]) := by
  obtain ⟨kind, block, bits, policy, host, text⟩ := c
  by_cases h1 : kind = 1
  · subst h1
    simp only [Change.used, Change.known]
    refine VF.intro Tryz.func39 rfl ok39 (by simp [Tryz.f39]) ?_
    simp [go_sem, Tryz.f39]
  by_cases h2 : kind = 2
  · subst h2
    simp only [Change.used, Change.known]
    refine VF.intro Tryz.func39 rfl ok39 (by simp [Tryz.f39]) ?_
    simp [go_sem, Tryz.f39]
  by_cases h3 : kind = 3
  · subst h3
    simp only [Change.used, Change.known]
    refine VF.intro Tryz.func39 rfl ok39 (by simp [Tryz.f39]) ?_
    simp [go_sem, Tryz.f39]
    refine drawK_of (by kernel_rfl) ?_
    simp [go_sem]
  by_cases h4 : kind = 4
  · subst h4
    simp only [Change.used, Change.known]
    refine VF.intro Tryz.func39 rfl ok39 (by simp [Tryz.f39]) ?_
    simp [go_sem, Tryz.f39]
  by_cases h5 : kind = 5
  · subst h5
    simp only [Change.used, Change.known]
    refine VF.intro Tryz.func39 rfl ok39 (by simp [Tryz.f39]) ?_
    simp [go_sem, Tryz.f39]
  by_cases h6 : kind = 6
  · subst h6
    simp only [Change.used, Change.known]
    refine VF.intro Tryz.func39 rfl ok39 (by simp [Tryz.f39]) ?_
    simp [go_sem, Tryz.f39]
  have hk : (decide (1 ≤ kind) && decide (kind ≤ 6)) = false := by simp; omega
  simp only [Change.used, Change.known, if_neg h1, if_neg h2, if_neg h3, if_neg h4, if_neg h5, if_neg h6, hk]
  refine VF.intro Tryz.func39 rfl ok39 (by simp [Tryz.f39]) ?_
  simp [go_sem, Tryz.f39, h1, h2, h3, h4, h5, h6]
/-- A copy that shares no memory. -/
theorem c29 (t1 t2 t3 : Nat) (h12 : t1 ≠ t2) (h13 : t1 ≠ t3) (h23 : t2 ≠ t3) (s : Space) (hb : few s.blocks) (hh : few s.hosts) (hz : few s.zones) : VX Tryz.prog 29 [] [.agg s.cs] (.agg [.ref t1 8 0 s.blocks.length, .ref t2 5 0 s.hosts.length, .ref t3 1 0 s.zones.length])
    [(t1, .row 42 8 (blks s.blocks) true), (t2, .row 44 5 (hsts s.hosts) true), (t3, .row 9 1 (strs s.zones) true)] := by
  refine VX.intro Tryz.func29 rfl ok29 (by simp [Tryz.f29]) ?_
  simp [go_sem, Tryz.f29]
  refine callK_x [] [] (c75 2101 s.blocks hb) rfl (by simp [go_sem]) (by simp [go_sem]) (by simp [go_sem]) (by simp [go_sem]) (by simp) (by simp [go_sem]) ?_
  simp [go_sem]
  refine callK_x [] [] (c76 2102 s.hosts hh) rfl (by simp [go_sem]) (by simp [go_sem]) (by simp [go_sem]) (by simp [go_sem]) (by simp) (by simp [go_sem]) ?_
  simp [go_sem]
  refine callK_x [] [] (c77 2103 s.zones hz) rfl (by simp [go_sem]) (by simp [go_sem]) (by simp [go_sem]) (by simp [go_sem]) (by simp) (by simp [go_sem]) ?_
  simp [go_sem]
  refine drawK_of (by kernel_rfl) ?_
  simp [go_sem]
  exact ⟨[(t1, some 2101, .row 42 8 (blks s.blocks) true), (t2, some 2102, .row 44 5 (hsts s.hosts) true), (t3, some 2103, .row 9 1 (strs s.zones) true)], by simp [go_sem, h12, h13, h23, h12.symm, h13.symm, h23.symm], by simp [go_sem], by simp [go_sem, h12, h13, h23], by simp⟩
end Go.V
/- Changes of blocks. Nothing is assumed. -/
set_option linter.unusedVariables false
set_option linter.unusedSimpArgs false
set_option maxRecDepth 20000
set_option pp.deepTerms false
namespace Go.V
open Go.Proofs

structure fitC (c : Change) : Prop where
  n : fits c.block.name
  o : fits c.block.owner
  h : fits c.host.name
  t : fits c.text
theorem c43 (h : Host) (s : Space) (hb : few s.blocks) : VF Tryz.prog 43 [.agg h.cs, .pro s.cs 0] (.bool (!blocked s.blocks h.addr)) := by
  refine VF.intro Tryz.func43 rfl ok43 (by simp [Tryz.f43]) ?_
  simp [go_sem, Tryz.f43]
  refine callK_of (c37 s.blocks h hb) ?_
  simp [go_sem]
/-- A change of the blocks. -/
def withB (s : Space) (r : List Block × Int) : Space × Int := if r.2 ≠ 0 then (.zero, r.2) else (⟨r.1, s.hosts, s.zones⟩, 0)
/-- Blocks without which some host has none. -/
def orphan (s : Space) (r : List Block × Int) : List Block × Int := if r.2 = 0 ∧ s.hosts.any (fun h => !blocked r.1 h.addr) = true then (r.1, 25) else r
theorem apply1 (s : Space) (c : Change) (hs : fitS s) (hc : fitC c) (hk : c.kind = 1) (hu : c.used = c) :
    VF Tryz.prog 15 [.agg s.cs, .agg c.cs] (.tup [.agg (withB s (addB s.blocks c.block)).1.cs, .int .i64 (withB s (addB s.blocks c.block)).2]) := by
  have eu := c39 c
  have kn : c.known = true := by simp [Change.known, hk]
  rw [kn, hu] at eu
  have ea := c40 s.blocks c.block hs.b hc.n hc.o
  generalize addB s.blocks c.block = r at *
  obtain ⟨l, e⟩ := r
  dsimp only at ea
  unfold withB
  refine VF.intro Tryz.func15 rfl ok15 (by simp [Tryz.f15]) ?_
  simp [go_sem, Tryz.f15]
  refine callK_of eu ?_
  simp [go_sem]
  refine callK_x [] [] (c29 5101 5102 5103 (by omega) (by omega) (by omega) s hs.b hs.h hs.z) rfl (by simp [go_sem]) (by simp [go_sem]) (by simp [go_sem]) (by simp [go_sem]) (by simp) (by simp [go_sem]) ?_
  simp [go_sem, hk]
  refine callK_of ea ?_
  simp [go_sem]
  exact ⟨fun h => by simp [h, Space.zero], fun h => by simp [h, go_sem, ro_str]⟩
theorem apply2 (s : Space) (c : Change) (hs : fitS s) (hc : fitC c) (hk : c.kind = 2) (hu : c.used = c) :
    VF Tryz.prog 15 [.agg s.cs, .agg c.cs] (.tup [.agg (withB s (orphan s (removeB s.blocks c.block.p))).1.cs, .int .i64 (withB s (orphan s (removeB s.blocks c.block.p))).2]) := by
  have eu := c39 c
  have kn : c.known = true := by simp [Change.known, hk]
  rw [kn, hu] at eu
  have ea := c41 s.blocks c.block.p hs.b
  have hlr : few (removeB s.blocks c.block.p).1 := by
    have := hs.b
    simp only [few] at *
    unfold removeB
    split
    · simp
    split
    · simp
    · simp; omega
  generalize removeB s.blocks c.block.p = r at *
  obtain ⟨l, e⟩ := r
  dsimp only at ea hlr
  have ec := c42 (p := fun h => !blocked l h.addr) s.hosts hs.h (.box [.sl (blks l), .sl (hsts s.hosts), .sl (strs s.zones)] 0) (fun h hh => c43 h ⟨l, s.hosts, s.zones⟩ hlr)
  unfold withB orphan
  dsimp only
  generalize (s.hosts.any fun h => !blocked l h.addr) = q at *
  refine VF.intro Tryz.func15 rfl ok15 (by simp [Tryz.f15]) ?_
  simp [go_sem, Tryz.f15]
  refine callK_of eu ?_
  simp [go_sem]
  refine callK_x [] [] (c29 5101 5102 5103 (by omega) (by omega) (by omega) s hs.b hs.h hs.z) rfl (by simp [go_sem]) (by simp [go_sem]) (by simp [go_sem]) (by simp [go_sem]) (by simp) (by simp [go_sem]) ?_
  simp [go_sem, hk]
  refine callK_of ea ?_
  simp [go_sem]
  refine callK_if (fun hg => ec) ?_
  simp [go_sem]
  exact ⟨fun h1 h2 => by simp [h1, h2, Space.zero], fun h => ⟨fun h1 => by simp [h1, Space.zero], fun h1 => by simp [h1, h h1]⟩⟩
end Go.V
/- The small case. Nothing is assumed. -/
set_option linter.unusedVariables false
set_option linter.unusedSimpArgs false
set_option maxRecDepth 20000
set_option pp.deepTerms false
namespace Go.V
open Go.Proofs

theorem inverse1 (s : Space) (c : Change) (r : Space × Int) (hk : c.kind = 1) (h : VF Tryz.prog 15 [.agg s.cs, .agg c.cs] (.tup [.agg r.1.cs, .int .i64 r.2])) :
    VF Tryz.prog 16 [.agg s.cs, .agg c.cs] (.tup [.agg (if r.2 ≠ 0 then Change.zero else { Change.zero with kind := 2, block := { Block.zero with p := c.block.p } }).cs, .int .i64 r.2]) := by
  refine VF.intro Tryz.func16 rfl ok16 (by simp [Tryz.f16]) ?_
  simp [go_sem, Tryz.f16]
  refine callK_of h ?_
  simp [go_sem, hk]
  exact ⟨fun h => by simp [h], fun h => by simp [h]⟩
def tenP : Prefix := ⟨⟨false, 0, 167772160⟩, 8⟩
theorem c28 : VF Tryz.prog 28 [.int .i64 8] (.agg tenP.cs) := by
  refine VF.intro Tryz.func28 rfl ok28 (by simp [Tryz.f28]) ?_
  simp [go_sem, Tryz.f28, tenP]
def netB : Block := { Block.zero with p := tenP, kind := 1, name := [110, 101, 116] }
def addC : Change := { Change.zero with kind := 1, block := netB }
def remC : Change := { Change.zero with kind := 2, block := { Block.zero with p := tenP } }
theorem aw1 : withB Space.zero (addB [] netB) = (⟨[netB], [], []⟩, 0) := by decide
theorem aw2 : withB Space.zero (orphan Space.zero (removeB [] tenP)) = (.zero, 11) := by decide
theorem c10 : VF Tryz.prog 10 [] (.bool true) := by
  have hs : fitS Space.zero := ⟨by simp [Space.zero], by simp [Space.zero], by simp [Space.zero], by simp [Space.zero], by simp [Space.zero], by simp [Space.zero]⟩
  have hc : fitC addC := ⟨by simp [addC, netB], by simp [addC, netB], by simp [addC, netB], by simp [addC, netB]⟩
  have hd : fitC remC := ⟨by simp [remC], by simp [remC], by simp [remC], by simp [remC]⟩
  have e1 := apply1 Space.zero addC hs hc rfl (by decide)
  have e2 := apply2 Space.zero remC hs hd rfl (by decide)
  have e3 := inverse1 Space.zero addC _ rfl e1
  rw [show Space.zero.blocks = [] from rfl, show addC.block = netB from rfl, aw1] at e1 e3
  rw [show Space.zero.blocks = [] from rfl, show remC.block.p = tenP from rfl, aw2] at e2
  refine VF.intro Tryz.func10 rfl ok10 (by simp [Tryz.f10]) ?_
  simp [go_sem, Tryz.f10]
  refine callK_of c28 ?_
  simp [go_sem]
  refine callK_of c28 ?_
  simp [go_sem]
  refine callK_of e1 ?_
  simp [go_sem]
  refine callK_of e2 ?_
  simp [go_sem]
  refine callK_of e3 ?_
  simp [go_sem]
  refine drawK_of (by kernel_rfl) ?_
  simp [go_sem]
  decide
/-- Whether there is more than statements look at. -/
def beyond (s : Space) (n : Nat) : Bool := decide (40 < s.blocks.length) || decide (40 < s.hosts.length) || decide (40 < s.zones.length) || decide (68 < n)
theorem c8 (s : Space) (l : List Change) : VF Tryz.prog 8 [.agg s.cs, .sl (chgs l)] (.bool (beyond s l.length)) := by
  have d40 : ∀ n : Nat, decide (40 < n) = decide ((40 : Int) < n) := fun n => by rw [decide_eq_decide]; omega
  have d68 : ∀ n : Nat, decide (68 < n) = decide ((68 : Int) < n) := fun n => by rw [decide_eq_decide]; omega
  simp only [beyond, d40, d68]
  refine VF.intro Tryz.func8 rfl ok8 (by simp [Tryz.f8]) ?_
  simp [go_sem, Tryz.f8]
/-- What is held in a space is short. -/
structure shortS (s : Space) : Prop where
  fb : ∀ b ∈ s.blocks, fitB b
  fh : ∀ h ∈ s.hosts, fitH h
  fz : ∀ z ∈ s.zones, fits z
theorem shortS.fit {s : Space} (h : shortS s) {n : Nat} (hb : beyond s n = false) : fitS s := by
  simp [beyond] at hb
  exact ⟨by simp; omega, by simp; omega, by simp; omega, h.fb, h.fh, h.fz⟩
theorem c4 (s : Space) (h : shortS s) : VF Tryz.prog 4 [.agg s.cs] (.bool true) := by
  have eb := c8 s []
  cases hb : beyond s 0 with
  | true =>
    rw [show ([] : List Change).length = 0 from rfl, hb] at eb
    refine VF.intro Tryz.func4 rfl ok4 (by simp [Tryz.f4]) ?_
    simp [go_sem, Tryz.f4]
    refine callK_of eb ?_
    simp [go_sem]
    refine callK_of c10 ?_
    simp [go_sem]
  | false =>
    rw [show ([] : List Change).length = 0 from rfl, hb] at eb
    have hs := h.fit hb
    refine VF.intro Tryz.func4 rfl ok4 (by simp [Tryz.f4]) ?_
    simp [go_sem, Tryz.f4]
    refine callK_of eb ?_
    simp [go_sem]
    refine callK_of (c14 s hs) ?_
    simp [go_sem]
    refine callK_of (c9 s hs) ?_
    simp [go_sem]
    refine callK_of c10 ?_
    simp [go_sem]
    refine drawK_of (by kernel_rfl) ?_
    simp [go_sem]
end Go.V
