/- A part of the proof, merged out of smaller texts. Nothing is assumed. -/
import Derived.Test.YtkghcmcapmblgaaGreatDoorXB
import Derived.Laws.CopyRow
import Derived.Lib.Overlaps
set_option linter.all false
/- The value logic, part B: steps by hand: capacities, copies, appends in place. Nothing is assumed. -/
set_option linter.unusedVariables false
set_option linter.unusedSimpArgs false
namespace Go.V
open Go.RowKit (Below)

section
variable {P : Program} {σ : St}
theorem kmix_nil (k k1 : Nat → TS) : kmix [] k k1 = k1 := by funext t; simp [kmix]
theorem kmix_one (k k1 : Nat → TS) (t : Nat) (x : TS) : kmix [t] (upd k t x) k1 = upd k1 t x := by
  funext i; simp only [kmix, List.mem_singleton, upd]; split <;> simp_all
/-- A step that changes nothing. -/
theorem Esc.quiet {op : Op} {v : PV} {ins rd : List Nat} (h : ∀ (τ : St) (fr : Fr) (μ : Nat → Option Pl) (n : Nat) (a : Act) (w : World) (o : Oper), (∀ s ∈ ins, τ.g s = σ.g s) → (∀ t ∈ rd, τ.k t = σ.k t) → o.op = op → StRep fr μ n τ a w →
    ∃ u, (execOp a.eval o).run P w = .ok (.value u) w ∧ RepV w (Cold fr τ.k μ) μ u v) : Esc P σ op v σ.k ⟨ins, rd, []⟩ := by
  refine ⟨fun τ h1 h2 fr μ n a w o ho hst => ?_, fun _ _ => rfl⟩
  obtain ⟨u, hu, hr⟩ := h τ fr μ n a w o h1 (fun t ht => h2 t (by simpa using ht)) ho hst
  rw [kmix_nil]
  exact ⟨μ, w, hst.inv, Keeps.below hst.inv (Below.refl _ _), .inl ⟨u, hu, hr⟩⟩
/-- A step that changes what one name holds. -/
theorem Esc.write {op : Op} {v : PV} {ins rd : List Nat} {t : Nat} {x : TS} (h : ∀ (τ : St) (fr : Fr) (μ : Nat → Option Pl) (n : Nat) (a : Act) (w : World) (o : Oper), (∀ s ∈ ins, τ.g s = σ.g s) → (∀ t ∈ rd, τ.k t = σ.k t) → τ.k t = σ.k t → o.op = op → StRep fr μ n τ a w →
    ∃ μ' w', Inv fr (upd τ.k t x) μ' w' ∧ Keeps w w' (Cold fr τ.k μ) (Cold fr (upd τ.k t x) μ') μ μ' ∧ ∃ u, (execOp a.eval o).run P w = .ok (.value u) w' ∧ RepV w' (Cold fr (upd τ.k t x) μ') μ' u v) : Esc P σ op v (upd σ.k t x) ⟨ins, rd, [t]⟩ := by
  refine ⟨fun τ h1 h2 fr μ n a w o ho hst => ?_, fun i hi => upd_ne _ _ _ _ (by simpa using hi)⟩
  obtain ⟨μ', w', h3, h4, u, hu, hr⟩ := h τ fr μ n a w o h1 (fun t ht => h2 t (List.mem_append_left _ ht)) (h2 t (by simp)) ho hst
  rw [kmix_one]
  exact ⟨μ', w', h3, h4, .inl ⟨u, hu, hr⟩⟩
theorem upd_self {α : Type} (k : Nat → α) (t : Nat) : upd k t (k t) = k := by funext i; simp only [upd]; split <;> simp_all

theorem rep_of {τ : St} {fr : Fr} {μ : Nat → Option Pl} {n : Nat} {a : Act} {w : World} (hst : StRep fr μ n τ a w) {x : Operand} (h : ∀ s ∈ slotOf x, τ.g s = σ.g s) (ho : (σ.ev x).ok = true) : RepV w (Cold fr τ.k μ) μ (a.eval x) (σ.ev x).strip := by
  have e : τ.ev x = σ.ev x := ev_cg h
  have := ev_rep hst.slot x
  rw [e] at this
  exact strip_rep this ho
theorem rep_int {τ : St} {fr : Fr} {μ : Nat → Option Pl} {n : Nat} {a : Act} {w : World} (hst : StRep fr μ n τ a w) {x : Operand} {k : IntKind} {i : Int} (h : ∀ s ∈ slotOf x, τ.g s = σ.g s) (ho : (σ.ev x).ok = true) (hx : (σ.ev x).strip = .int k i) : a.eval x = .int k i := by
  have := rep_of hst h ho
  rw [hx] at this
  exact this.int_inv
theorem val_run {m : Sem Value} {u : Value} {w w' : World} (hm : m.run P w = .ok u w') : (do pure (.value (← m)) : Sem Next).run P w = .ok (.value u) w' := by
  simp only [Sem.run_bind, hm, Result.andThen]; rfl
theorem sub_left {a b : List Nat} {τ : St} (h : ∀ s ∈ a ++ b, τ.g s = σ.g s) : ∀ s ∈ a, τ.g s = σ.g s := fun s hs => h s (List.mem_append_left _ hs)
theorem sub_right {a b : List Nat} {τ : St} (h : ∀ s ∈ a ++ b, τ.g s = σ.g s) : ∀ s ∈ b, τ.g s = σ.g s := fun s hs => h s (List.mem_append_right _ hs)

/-! ### Capacity -/
theorem esc_cap {x : Operand} {t e : TypeId} {tk sz lo n : Nat} {es : List (List PV)} (hx : (σ.ev x).strip = .ref tk sz lo n) (ho : (σ.ev x).ok = true) (hk : σ.k tk = .live (.arr e sz es)) (ht : (tyElem P t).isSome = true) :
    Esc P σ (.call ⟨.builtin .cap, #[x], #[t]⟩) (.int .i64 ((es.length - lo : Nat) : Int)) σ.k ⟨slotOf x, [tk], []⟩ := by
  refine Esc.quiet fun τ fr μ n' a w o h1 h2 hop hst => ?_
  obtain ⟨dst, op, ty, pos, af, gd⟩ := o
  simp only at hop; subst hop
  have hr := rep_of hst h1 ho
  rw [hx] at hr
  obtain ⟨b, A, c, cs, hb, hv, hnc, hA, hlc, _⟩ := ref_arr hst.inv ((h2 tk (by simp)).trans hk) hr
  obtain ⟨⟨e', sz'⟩, he⟩ := Option.isSome_iff_exists.1 ht
  refine ⟨.int .i64 (c : Int), ?_, ?_⟩
  · have ha : (#[x] : Array Operand).map a.eval = #[a.eval x] := by simp
    simp only [execOp, resolve, invoke, builtin, Sem.run_bind, Sem.run_pure, Result.andThen, ha, hv]
    simp [Builtin.cap_, run_underlying (tyElem_run he).1, goInt]
  · have : es.length - lo = c := by omega
    rw [this]; exact .base _ _ (.int _ _)
/-! ### A slice with three bounds, which nobody looks at -/
theorem esc_slice3 {x lo hi mx : Operand} {t e : TypeId} {tk sz l n : Nat} {es : List (List PV)} {k1 k2 k3 : IntKind} {i j m : Int} (hx : (σ.ev x).strip = .ref tk sz l n) (ho : (σ.ev x).ok = true) (hk : σ.k tk = .live (.arr e sz es)) (ht : (tyElem P t).isSome = true)
    (h1 : (σ.ev lo).strip = .int k1 i) (o1 : (σ.ev lo).ok = true) (h2 : (σ.ev hi).strip = .int k2 j) (o2 : (σ.ev hi).ok = true) (h3 : (σ.ev mx).strip = .int k3 m) (o3 : (σ.ev mx).ok = true) (hb : 0 ≤ i ∧ i ≤ j ∧ j ≤ m ∧ m ≤ n) :
    Esc P σ (.slice t x (some lo) (some hi) (some mx)) .any σ.k ⟨slotOf x ++ (slotOf lo ++ (slotOf hi ++ slotOf mx)), [tk], []⟩ := by
  refine Esc.quiet fun τ fr μ n' a w o g1 g2 hop hst => ?_
  obtain ⟨dst, op, ty, pos, af, gd⟩ := o
  simp only at hop; subst hop
  have hr := rep_of hst (sub_left g1) ho
  rw [hx] at hr
  have e1 := rep_int hst (sub_left (sub_right g1)) o1 h1
  have e2 := rep_int hst (sub_left (sub_right (sub_right g1))) o2 h2
  have e3 := rep_int hst (sub_right (sub_right (sub_right g1))) o3 h3
  obtain ⟨b, A, c, cs, hb', hv, hnc, hA, hlc, _⟩ := ref_arr hst.inv ((g2 tk (by simp)).trans hk) hr
  obtain ⟨⟨e', sz'⟩, he⟩ := Option.isSome_iff_exists.1 ht
  obtain ⟨hu, inf, hi', rfl⟩ := tyElem_run he
  have b1 : 0 ≤ m ∧ m ≤ (c : Int) := by omega
  have b2 : 0 ≤ j ∧ j ≤ ((m.toNat : Nat) : Int) := by omega
  have b3 : 0 ≤ i ∧ i ≤ ((j.toNat : Nat) : Int) := by omega
  have hbd : (Instr.sliceBounds true n c (some (.int k1 i)) (some (.int k2 j)) (some (.int k3 m))).run P w = .ok (i.toNat, j.toNat, m.toNat) w := by
    simp only [Instr.sliceBounds, Instr.sliceBound, asIntOf, Sem.run_bind, Sem.run_pure, Result.andThen, if_pos b1, if_pos b2, if_pos b3]
  have hrun : ∃ u, (Instr.sliceAt t (.slice A n c) (some (.int k1 i)) (some (.int k2 j)) (some (.int k3 m))).run P w = .ok u w := by
    refine ⟨.slice (if m.toNat = i.toNat then A else A.map (·.add (i.toNat * inf.size))) (j.toNat - i.toNat) (m.toNat - i.toNat), ?_⟩
    simp only [Instr.sliceAt, Sem.run_bind, run_underlying hu, Result.andThen, Instr.slice, hbd, sizeOf, typeInfo]
    simp [hi']
  obtain ⟨u, hu'⟩ := hrun
  refine ⟨u, ?_, .any' _⟩
  simp only [execOp, Option.map_some, e1, e2, e3, hv]
  exact val_run hu'

/-! ### The elements that are read, out of full rows too -/
def srcsA (k : Nat → TS) : PV → Option (List (List PV))
  | .ref t sz lo n => match k t with
    | .live (.arr _ sz' es) => if sz = sz' ∧ lo + n ≤ es.length then some ((es.drop lo).take n) else none
    | _ => srcs k (.ref t sz lo n)
  | x => srcs k x
theorem srcsA_rep {fr : Fr} {k : Nat → TS} {μ : Nat → Option Pl} {w : World} (hi : Inv fr k μ w) {v : Value} {x : PV} {es : List (List PV)} {sz : Nat} (hsz : ∀ e ∈ es, e.length = sz) (h : RepV w (Cold fr k μ) μ v x) (hx : srcsA k x = some es) :
    ∃ A c, v = .slice A es.length c ∧ (es ≠ [] → ∃ b o, A = some ⟨b, o, none⟩ ∧ ∀ (i j : Nat) (e : List PV) (y : PV), es[i]? = some e → e[j]? = some y → ∃ u, w.cell? ⟨b, o + i * sz + j, none⟩ = some u ∧ RepV w (Cold fr k μ) μ u y) := by
  unfold srcsA at hx
  split at hx
  · rename_i t sz0 lo n
    split at hx
    · rename_i e0 sz' es0 hk
      split at hx
      · rename_i hc
        obtain ⟨rfl, hle⟩ := hc
        cases hx
        obtain ⟨b, A, c, cs, hb, rfl, hnc, hA, hlc, hpos, hall, hh, hcs, hm, hcell⟩ := ref_arr hi hk h
        have hlen : ((es0.drop lo).take n).length = n := by simp; omega
        refine ⟨A, c, by rw [hlen], fun hne => ?_⟩
        have hn0 : n ≠ 0 := by rintro rfl; simp at hne
        refine ⟨b, lo * sz0, hA.resolve_left (by omega), fun i j e y he hy => ?_⟩
        have hszz : sz0 = sz := by
          have hm' := List.mem_of_getElem? he
          rw [← hsz e hm']
          exact (hall e (List.mem_of_mem_drop (List.mem_of_mem_take hm'))).symm
        subst hszz
        obtain ⟨hil, _⟩ := List.getElem?_eq_some_iff.1 he
        rw [List.getElem?_take, if_pos (by omega), List.getElem?_drop] at he
        obtain ⟨u, hu, hr⟩ := hcell (lo + i) j e y he hy
        refine ⟨u, ?_, hr⟩
        rw [cell_of_row w b _ cs _ _ hh, ← hu]
        congr 1
        rw [Nat.add_mul]
      · cases hx
    · exact srcs_rep hi hsz h hx
  · exact srcs_rep hi hsz h hx
/-- The names that are looked at there. -/
theorem srcsA_cg {k k' : Nat → TS} {x : PV} (h : Agree k k' x.nm1) : srcsA k x = srcsA k' x := by
  cases x with
  | ref t sz lo n =>
    have ht : k t = k' t := h t (by simp [PV.nm1])
    have h2 := srcs_cg (x := .ref t sz lo n) h
    simp only [srcsA, ht, h2]
  | _ => exact srcs_cg h

/-! ### An append in place -/
theorem esc_append {x s : Operand} {t e : TypeId} {tk sz n : Nat} {es ys : List (List PV)} (hs : (σ.ev s).strip = .ref tk sz 0 n) (os : (σ.ev s).ok = true) (hk : σ.k tk = .live (.arr e sz es)) (ht : tyElem P t = some (e, sz))
    (ox : (σ.ev x).ok = true) (hx : srcsA σ.k (σ.ev x).strip = some ys) (hall : ∀ y ∈ ys, y.length = sz) (hone : ∀ y ∈ ys, ∀ c ∈ y, PV.one (fun _ => .fresh) c = true) (hfit : n + ys.length ≤ es.length) (hn : 0 < es.length) :
    Esc P σ (.call ⟨.builtin .append, #[s, x], #[t, t]⟩) (.ref tk sz 0 (n + ys.length)) (upd σ.k tk (.live (.arr e sz (setR es n ys)))) ⟨slotOf s ++ slotOf x, (σ.ev x).strip.nm1, [tk]⟩ := by
  refine Esc.write fun τ fr μ n' a w o g1 g2 g3 hop hst => ?_
  obtain ⟨dst, op, ty, pos, af, gd⟩ := o
  simp only at hop; subst hop
  have hi := hst.inv
  have hrs := rep_of hst (sub_left g1) os
  have hrx := rep_of hst (sub_right g1) ox
  rw [hs] at hrs
  have hk' : τ.k tk = .live (.arr e sz es) := g3.trans hk
  have hx' : srcsA τ.k (σ.ev x).strip = some ys := (srcsA_cg (fun t ht => g2 t ht)).trans hx
  obtain ⟨b, A, c, cs, hb, hv, hnc, hA, hlc, hpos, hesz, hh, hcs, hm, hcell⟩ := ref_arr hi hk' hrs
  obtain ⟨Ax, cx, hvx, hxc⟩ := srcsA_rep hi hall hrx hx'
  obtain ⟨hu, inf, hinf, hisz⟩ := tyElem_run ht
  have hc0 : c ≠ 0 := by omega
  have hA' : A = some ⟨b, 0, none⟩ := by have := hA.resolve_left hc0; simpa using this
  subst hA'
  have ha : (#[s, x] : Array Operand).map a.eval = #[a.eval s, a.eval x] := by simp
  have fin : ∀ (w' : World) (r : Value), (Builtin.append_ #[t, t] ty #[.slice (some ⟨b, 0, none⟩) n c, .slice Ax ys.length cx]).run P w = .ok r w' → (execOp a.eval ⟨dst, .call ⟨.builtin .append, #[s, x], #[t, t]⟩, ty, pos, af, gd⟩).run P w = .ok (.value r) w' := by
    intro w' r hr
    simp only [execOp, resolve, invoke, builtin, Sem.run_bind, Sem.run_pure, Result.andThen, ha, hv, hvx, hr]
  by_cases hy : ys = []
  · subst hy
    have hset : setR es n [] = es := by simp [setR]
    rw [hset, ← hk', upd_self]
    refine ⟨μ, w, hi, Keeps.below hi (Below.refl _ _), .slice (some ⟨b, 0, none⟩) n c, fin _ _ ?_, ?_⟩
    · simp only [Builtin.append_]
      simp [run_underlying hu, sizeOf, typeInfo, hinf, Builtin.lenOf, hnc]
      cases Ax <;> simp [Builtin.firstCells, loadCells, loadCellsFrom, storeCells]
    · rw [hv] at hrs; exact hrs
  · obtain ⟨b0, o0, rfl, hcell0⟩ := hxc hy
    have hone' : ∀ y ∈ ys, ∀ c ∈ y, PV.one τ.k c = true := fun y hy c hc => by
      have := hone y hy c hc
      cases c <;> first | exact this | (simp [PV.one, isLive] at this)
    obtain ⟨news, hnl, hnews, hn1, hnr⟩ := srcs_vals hi hpos hall hone' hcell0
    obtain ⟨hw1, hw2, hw3⟩ := arr_write hi hk' hb hall hh hnl hnr (lo := n) hfit
    have hr := run_append_room (P := P) w t ty e inf hu hinf b n c cs hh ⟨b0, o0, none⟩ ys.length cx news (by rw [hisz]; exact hnl) hnews hn1 (by omega) (by rw [hisz]; exact hw1)
    rw [hisz] at hr
    refine ⟨μ, _, hw2, hw3, _, fin _ _ hr, .ref _ _ _ _ _ (by rw [hb]; simp) (fun h => by rw [hb] at h; cases h) (fun b' hb' => ?_)⟩
    rw [hb] at hb'; cases hb'
    refine ⟨_, c, rfl, by omega, .inr (by simp), fun cs2 e2 fz2 hbk => ?_⟩
    rw [setRow_heap w b cs _ _ _ hh] at hbk
    cases hbk
    show (0 + c) * sz = (setR cs.toList (n * sz) news).toArray.size
    rw [setR_size _ _ _ hw1, hcs]; congr 1
end
end Go.V
/- The value logic, part D: steps by hand: copies, zeros, rows apart. Nothing is assumed. -/
set_option linter.unusedVariables false
set_option linter.unusedSimpArgs false
namespace Go.V
open Go.RowKit (Below)

section
variable {P : Program} {σ : St}
theorem zeroCells_get (z : Array Value) (n : Nat) (i j : Nat) (hi : i < n) (hj : j < z.size) : (Builtin.zeroCells z n)[i * z.size + j]? = z[j]? := by
  have hlt : i * z.size + j < n * z.size := by
    have := Nat.mul_le_mul_right z.size (show i + 1 ≤ n by omega)
    rw [Nat.add_mul, Nat.one_mul] at this; omega
  simp only [Builtin.zeroCells, Array.getElem?_map, Array.getElem?_range, hlt, Option.map_some, if_true]
  have hm : (i * z.size + j) % z.size = j := by rw [Nat.mul_comm, Nat.mul_add_mod]; exact Nat.mod_eq_of_lt hj
  rw [hm, Array.getElem?_eq_getElem hj, getElem!_pos z j hj]
theorem one_zero (v : Value) : PV.one (fun _ => .fresh) (.ofValue v) = true ∨ PV.ofValue v = .any := by
  unfold PV.ofValue
  split <;> simp [PV.one]
/-- A zeroed element. -/
theorem zero_cells {w : World} {C : Addr → Prop} {μ : Nat → Option Pl} {z : Value} {zl : List PV} (hz : zl = z.cells.toList.map PV.ofValue) (n : Nat) :
    ∀ (i j : Nat) (x : List PV) (y : PV), (List.replicate n zl)[i]? = some x → x[j]? = some y → ∃ v, (Builtin.zeroCells z.cells n).toList[i * zl.length + j]? = some v ∧ RepV w C μ v y := by
  intro i j x y hx hy
  rw [List.getElem?_replicate] at hx
  split at hx
  · rename_i hi
    cases hx
    subst hz
    simp only [List.length_map, Array.length_toList] at *
    rw [List.getElem?_map] at hy
    cases hzj : z.cells.toList[j]? with
    | none => rw [hzj] at hy; cases hy
    | some v =>
      rw [hzj] at hy; cases hy
      have hj : j < z.cells.size := by have := (List.getElem?_eq_some_iff.1 hzj).1; simpa using this
      refine ⟨v, ?_, .base _ _ (ofValue_rep v)⟩
      rw [Array.getElem?_toList, zeroCells_get _ _ _ _ hi hj]
      rw [Array.getElem?_toList] at hzj; exact hzj
  · cases hx

theorem ref_inv {w : World} {C : Addr → Prop} {μ : Nat → Option Pl} {v : Value} {t sz lo n : Nat} (h : RepV w C μ v (.ref t sz lo n)) : μ t ≠ none ∧ (μ t = some .nil → lo = 0 ∧ n = 0 ∧ v = .slice none 0 0) ∧
    ∀ b, μ t = some (.at b) → ∃ A c, v = .slice A n c ∧ n ≤ c ∧ (c = 0 ∨ A = some ⟨b, lo * sz, none⟩) ∧ ∀ cs e fz, w.heap[b]? = some (.cells cs e fz) → (lo + c) * sz = cs.size := by
  cases h with
  | base _ _ h => cases h
  | ref _ _ _ _ _ hu hn hat => exact ⟨hu, hn, hat⟩
/-! ### A copy -/
theorem run_copy_any (w : World) (dT sT ty elem : TypeId) (i : TypeInfo) (g o dLen dCap : Nat) (b : Addr) (sLen sCap : Nat) (cur : Array Value) (t : TypeId) (cs : List Value)
    (hu : P.underlying dT = some (.slice elem)) (hs : P.info? elem = some i)
    (hg : w.heap[g]? = some (.cells cur t (0, 0))) (hn : cs.length = Nat.min sLen dLen * i.size)
    (hsrc : ∀ j v, cs[j]? = some v → w.cell? (b.add j) = some v) (hfit : o + cs.length ≤ cur.size) (h1 : ∀ v ∈ cs, v.oneCell' = true) :
    (Builtin.copy_ #[dT, sT] ty #[.slice (some ⟨g, o, none⟩) dLen dCap, .slice (some b) sLen sCap]).run P w =
      .ok (goInt (Nat.min sLen dLen)) (w.setRow g (setR cur.toList o cs).toArray) := by
  have hl := run_loadCells_list (P := P) w b cs hsrc
  have hst := run_storeCells_at P g o t cs 0 cur w hg (by simpa using hfit) h1
  simp only [Nat.add_zero] at hst
  simp only [setR]
  simp [Builtin.copy_, run_underlying hu, Builtin.lenOf, Builtin.firstCells, sizeOf, typeInfo, hs, ← hn, hl, hst]
theorem run_copy_zero (w : World) (dT sT ty elem : TypeId) (i : TypeInfo) (A : Option Addr) (dLen dCap : Nat) (B : Option Addr) (sLen sCap : Nat)
    (hu : P.underlying dT = some (.slice elem)) (hs : P.info? elem = some i) (hn : Nat.min sLen dLen = 0) :
    (Builtin.copy_ #[dT, sT] ty #[.slice A dLen dCap, .slice B sLen sCap]).run P w = .ok (goInt 0) w := by
  simp only [Builtin.copy_]
  cases B <;> cases A <;> simp [run_underlying hu, Builtin.lenOf, Builtin.firstCells, sizeOf, typeInfo, hs, hn, loadCells, loadCellsFrom, storeCells]
/-- What is copied into a full row, or a row. -/
def cpTok (k : Nat → TS) (tk sz lo : Nat) (zs : List (List PV)) : Option Tok := match k tk with
  | .live (.arr e sz' es) => if sz = sz' ∧ lo + zs.length ≤ es.length then some (.arr e sz (setR es lo zs)) else none
  | .live (.row e sz' es true) => if sz = sz' ∧ lo + zs.length ≤ es.length then some (.row e sz (setR es lo zs) true) else none
  | _ => none
theorem esc_copy {d x : Operand} {t t' e : TypeId} {tk sz lo n : Nat} {ys : List (List PV)} {tok : Tok} (hd : (σ.ev d).strip = .ref tk sz lo n) (od : (σ.ev d).ok = true) (ht : tyElem P t = some (e, sz))
    (ox : (σ.ev x).ok = true) (hx : srcsA σ.k (σ.ev x).strip = some ys) (hall : ∀ y ∈ ys, y.length = sz) (hone : ∀ y ∈ ys.take n, ∀ c ∈ y, PV.one (fun _ => .fresh) c = true) (hk : cpTok σ.k tk sz lo (ys.take n) = some tok) (h0 : 0 < n) (hy0 : ys ≠ []) :
    Esc P σ (.call ⟨.builtin .copy, #[d, x], #[t, t']⟩) (.int .i64 (min ys.length n : Nat)) (upd σ.k tk (.live tok)) ⟨slotOf d ++ slotOf x, (σ.ev x).strip.nm1, [tk]⟩ := by
  refine Esc.write fun τ fr μ n' a w o g1 g2 g3 hop hst => ?_
  obtain ⟨dst, op, ty, pos, af, gd⟩ := o
  simp only at hop; subst hop
  have hi := hst.inv
  have hrd := rep_of hst (sub_left g1) od
  have hrx := rep_of hst (sub_right g1) ox
  rw [hd] at hrd
  have hx' : srcsA τ.k (σ.ev x).strip = some ys := (srcsA_cg (fun t ht => g2 t ht)).trans hx
  obtain ⟨Ax, cx, hvx, hxc⟩ := srcsA_rep hi hall hrx hx'
  obtain ⟨hu, inf, hinf, hisz⟩ := tyElem_run ht
  have ha : (#[d, x] : Array Operand).map a.eval = #[a.eval d, a.eval x] := by simp
  have hk2 : cpTok τ.k tk sz lo (ys.take n) = some tok := by simp only [cpTok, g3]; exact hk
  obtain ⟨b0, o0, rfl, hcell0⟩ := hxc hy0
  have hone' : ∀ y ∈ ys.take n, ∀ c ∈ y, PV.one τ.k c = true := fun y hy c hc => by
    have := hone y hy c hc
    cases c <;> first | exact this | (simp [PV.one, isLive] at this)
  have fin : ∀ (A : Option Addr) (c : Nat) (w' : World) (r : Value), a.eval d = .slice A n c → (Builtin.copy_ #[t, t'] ty #[.slice A n c, .slice (some ⟨b0, o0, none⟩) ys.length cx]).run P w = .ok r w' → (execOp a.eval ⟨dst, .call ⟨.builtin .copy, #[d, x], #[t, t']⟩, ty, pos, af, gd⟩).run P w = .ok (.value r) w' := by
    intro A c w' r hv hr
    simp only [execOp, resolve, invoke, builtin, Sem.run_bind, Sem.run_pure, Result.andThen, ha, hv, hvx, hr]
  have hty : ∀ y ∈ ys.take n, y.length = sz := fun y hy => hall y (List.mem_of_mem_take hy)
  have hl' : (ys.take n).length = Nat.min ys.length n := by rw [List.length_take]; exact Nat.min_comm _ _
  have hcell1 : ∀ (i j : Nat) (e : List PV) (y : PV), (ys.take n)[i]? = some e → e[j]? = some y → ∃ u, w.cell? ⟨b0, o0 + i * sz + j, none⟩ = some u ∧ RepV w (Cold fr τ.k μ) μ u y := fun i j e y he hy => by
    rw [List.getElem?_take] at he
    split at he
    · exact hcell0 i j e y he hy
    · cases he
  unfold cpTok at hk2
  split at hk2
  · rename_i e' sz' es hkk
    split at hk2
    · rename_i hc
      obtain ⟨rfl, hle⟩ := hc
      cases hk2
      obtain ⟨b, A, c, cs, hb, hv, hnc, hA, hlc, hpos, hesz, hh, hcs, hm, hcell⟩ := ref_arr hi hkk hrd
      have hA' : A = some ⟨b, lo * sz, none⟩ := hA.resolve_left (by omega)
      subst hA'
      obtain ⟨news, hnl, hnews, hn1, hnr⟩ := srcs_vals hi hpos hty (fun y hy => hone' y hy) hcell1
      obtain ⟨hw1, hw2, hw3⟩ := arr_write hi hkk hb hty hh hnl hnr (lo := lo) hle
      have hr := run_copy_any (P := P) w t t' ty e inf b (lo * sz) n c ⟨b0, o0, none⟩ ys.length cx cs e' news hu hinf hh (by rw [hnl, hl', hisz]) hnews hw1 hn1
      exact ⟨μ, _, hw2, hw3, _, fin _ _ _ _ hv hr, .base _ _ (.int _ _)⟩
    · cases hk2
  · rename_i e' sz' es hkk
    split at hk2
    · rename_i hc
      obtain ⟨rfl, hle⟩ := hc
      cases hk2
      obtain ⟨p, hp, ⟨hpos, hesz⟩, hrow⟩ := hi.live tk _ hkk
      · obtain ⟨hu', hn, hat⟩ := ref_inv hrd
        have hnn : μ tk ≠ some .nil := fun h => by have := (hn h).2.1; omega
        obtain ⟨b, hb⟩ := live_at hi (by simp [isLive, hkk]) hnn
        obtain ⟨A, c, hv, hnc, hA, hcap⟩ := hat b hb
        rw [hb] at hp; cases hp
        rcases hrow with ⟨h, _⟩ | ⟨b', cs, c', hb', hh, hcs, hle', hcm, hcell⟩
        · cases h
        cases hb'
        have hA' : A = some ⟨b, lo * sz, none⟩ := hA.resolve_left (by omega)
        subst hA'
        obtain ⟨news, hnl, hnews, hn1, hnr⟩ := srcs_vals hi hpos hty (fun y hy => hone' y hy) hcell1
        obtain ⟨hw1, hw2, hw3⟩ := row_write hi hkk hb hty hh hnl hnr (lo := lo) hle
        have hr := run_copy_any (P := P) w t t' ty e inf b (lo * sz) n c ⟨b0, o0, none⟩ ys.length cx cs e' news hu hinf hh (by rw [hnl, hl', hisz]) hnews hw1 hn1
        exact ⟨μ, _, hw2, hw3, _, fin _ _ _ _ hv hr, .base _ _ (.int _ _)⟩
    · cases hk2
  · cases hk2

/-! ### Zeros that are appended beyond the capacity -/
theorem run_append_grow_zeros (w : World) (t tn ty e : TypeId) (i : TypeInfo) (z : Value) (k kn : IntKind) (ht : P.underlying t = some (.slice e)) (htn : P.underlying tn = some (.int kn)) (hi : P.info? e = some i) (hz : i.zero = some z)
    (b : Addr) (sLen sCap : Nat) (olds : List Value) (hlo : olds.length = sLen * i.size) (holds : ∀ j v, olds[j]? = some v → w.cell? (b.add j) = some v)
    (n : Nat) (h0 : 0 < n) (hs : 0 < i.size) (hg : sCap < sLen + n) (hb : (sLen + n) * i.bytes ≤ 140737488355328) (h47 : sLen + n ≤ 140737488355328) :
    (Builtin.append_ #[t, tn] ty #[.slice (some b) sLen sCap, .int k n]).run P w =
      .ok (.slice (some ⟨w.heap.size, 0, none⟩) (sLen + n) (grownCap w (sLen + n) sCap e))
        (w.drew.alloc (.cells (olds.toArray ++ (Builtin.zeroCells z.cells n ++ Builtin.zeroCells z.cells (grownCap w (sLen + n) sCap e - (sLen + n)))) e)) := by
  have hn0 : n ≠ 0 := by omega
  have hw : IntKind.i64.wrap (n : Int) = n := by rw [IntKind.wrap_i64]; omega
  have hn : ¬ (sLen + n ≤ sCap) := by omega
  have h63' : ¬ (9223372036854775807 < ((sLen : Int) + (n : Int))) := by omega
  have hf := growslice_fits hg hb
  have h48' : ¬ (281474976710656 < Builtin.nextslicecap (sLen + n) sCap * i.bytes) := by omega
  have h48i : ¬ (281474976710656 < (n : Int) * (i.bytes : Int)) := by
    rw [← Int.natCast_mul]
    rw [Nat.add_mul] at hb
    omega
  have hneg : ¬ ((n : Int) < 0) := by omega
  have hns : ¬ (n * i.size = 0) := Nat.mul_ne_zero hn0 (by omega)
  have hfo := run_firstCells_some (P := P) w.drew i.size sLen b sLen sCap olds hlo (by simpa using holds)
  simp [Builtin.append_, run_underlying ht, run_underlying htn, sizeOf, typeInfo, zeroValue, hi, hz, asInt, asIntOf, hw, hn, hneg, hns, h63', h48', h48i, Question.forced, hfo, newRow, grownCap]
theorem tyInt_run {t : TypeId} {k : IntKind} (h : tyInt P t = some k) : P.underlying t = some (.int k) := by
  unfold tyInt at h
  split at h
  · rename_i k' hk'; cases h; exact hk'
  · cases h
theorem esc_zeros {s x : Operand} {t tn e : TypeId} {tk sz n m by' d : Nat} {k kn : IntKind} {es : List (List PV)} {zl : List PV} (hs : (σ.ev s).strip = .ref tk sz 0 n) (os : (σ.ev s).ok = true) (hk : σ.k tk = .live (.arr e sz es)) (ht : tyElem P t = some (e, sz)) (htn : tyInt P tn = some kn)
    (ox : (σ.ev x).ok = true) (hx : (σ.ev x).strip = .int k m) (hz : tyZero P e = some zl) (hzl : zl.length = sz) (hby : tyBytes P e = some by') (hbp : 0 < by') (hm : 0 < m) (hne : 0 < es.length) (hcap : es.length < n + m) (hle : n ≤ es.length) (hfit : (n + m) * by' ≤ 140737488355328) (hd : σ.k d = .fresh) :
    Esc P σ (.call ⟨.builtin .append, #[s, x], #[t, tn]⟩) (.ref d sz 0 (n + m)) (upd σ.k d (.live (.row e sz (es.take n ++ List.replicate m zl) true))) ⟨slotOf s ++ slotOf x, [tk], [d]⟩ := by
  refine Esc.write fun τ fr μ n' a w o g1 g2 g3 hop hst => ?_
  obtain ⟨dst, op, ty, pos, af, gd⟩ := o
  simp only at hop; subst hop
  have hi := hst.inv
  have hrs := rep_of hst (sub_left g1) os
  have hxv := rep_int hst (sub_right g1) ox hx
  rw [hs] at hrs
  have hk' : τ.k tk = .live (.arr e sz es) := (g2 tk (by simp)).trans hk
  obtain ⟨b, A, c, cs, hb, hv, hnc, hA, hlc, hpos, hesz, hh, hcs, hcm, hcell⟩ := ref_arr hi hk' hrs
  obtain ⟨hu, inf, hinf, hisz⟩ := tyElem_run ht
  obtain ⟨z, _, hzz, it, hit, hiz⟩ := tyZero_run hz w
  rw [hinf] at hit; cases hit
  have hib : inf.bytes = by' := by unfold tyBytes at hby; rw [hinf] at hby; simpa using hby
  have hA' : A = some ⟨b, 0, none⟩ := by have := hA.resolve_left (by omega); simpa using this
  subst hA'
  have hzs : z.cells.size = sz := by rw [← hzl, hzz]; simp
  have h47 : n + m ≤ 140737488355328 := Nat.le_trans (Nat.le_mul_of_pos_right _ hbp) hfit
  have hol : (cs.toList.take (n * sz)).length = n * sz := by
    simp only [List.length_take, Array.length_toList, hcs]
    have : n * sz ≤ es.length * sz := Nat.mul_le_mul_right _ hle
    omega
  have holds : ∀ j u, (cs.toList.take (n * sz))[j]? = some u → w.cell? ((⟨b, 0, none⟩ : Addr).add j) = some u := by
    intro j u hu2
    rw [List.getElem?_take] at hu2
    split at hu2
    · rw [Addr.add_lit, Nat.zero_add, cell_of_row w b j cs _ _ hh]; simpa using hu2
    · cases hu2
  have hr := run_append_grow_zeros (P := P) w t tn ty e inf z k kn hu (tyInt_run htn) hinf hiz ⟨b, 0, none⟩ n c (cs.toList.take (n * sz)) (by rw [hisz]; exact hol) holds m hm (by omega) (by omega) (by rw [hib]; exact hfit) h47
  have hcap1 := grownCap_ge w (n + m) c e
  have hcap2 := grownCap_le_maxLen w (n + m) c e (by simp only [maxLen]; omega)
  generalize grownCap w (n + m) c e = cap at hr hcap1 hcap2
  have hbel : Below w.heap.size w w.drew := (Below.refl _ _).drew
  have hi1 := hi.below hbel
  have K1 := Keeps.below hi hbel
  have hzc := zero_cells (w := w) (C := Cold fr τ.k μ) (μ := μ) hzz m
  have h := new_row hi1 (cs := (cs.toList.take (n * sz)).toArray ++ (Builtin.zeroCells z.cells m ++ Builtin.zeroCells z.cells (cap - (n + m)))) (e := e) (sz := sz) (c := cap) (es := es.take n ++ List.replicate m zl) true hpos
    (fun x hx => by
      rcases List.mem_append.1 hx with h | h
      · exact hesz x (List.mem_of_mem_take h)
      · rw [List.eq_of_mem_replicate h]; exact hzl)
    (by simp only [Array.size_append, List.size_toArray, size_zeroCells, hzs, hol, ← Nat.add_mul]; congr 1; omega) (by simp; omega) hcap2
    (fun i j x y hx hy => by
      by_cases hie : i < n
      · rw [List.getElem?_append_left (by simp; omega), List.getElem?_take, if_pos hie] at hx
        obtain ⟨v, hv, hr⟩ := hcell i j x y hx hy
        have hxl := hesz x (List.mem_of_getElem? hx)
        obtain ⟨hjl, _⟩ := List.getElem?_eq_some_iff.1 hy
        have hmul : (i + 1) * sz ≤ n * sz := Nat.mul_le_mul_right _ hie
        rw [Nat.add_mul, Nat.one_mul] at hmul
        refine ⟨v, ?_, hr.mono K1⟩
        rw [Array.getElem?_append_left (by simp only [List.size_toArray, hol]; omega), List.getElem?_toArray, List.getElem?_take, if_pos (by omega)]
        simpa using hv
      · have hln : (es.take n).length = n := by simp; omega
        rw [List.getElem?_append_right (by omega), hln] at hx
        obtain ⟨v, hv, hr⟩ := hzc (i - n) j x y hx hy
        rw [hzl] at hv
        obtain ⟨hil, _⟩ := List.getElem?_eq_some_iff.1 hx
        simp only [List.length_replicate] at hil
        have hxl : x.length = sz := by rw [List.getElem?_replicate, if_pos hil] at hx; cases hx; exact hzl
        obtain ⟨hjl, _⟩ := List.getElem?_eq_some_iff.1 hy
        have hmul : (i - n + 1) * sz ≤ m * sz := Nat.mul_le_mul_right _ hil
        rw [Nat.add_mul, Nat.one_mul] at hmul
        have hmul2 : n * sz + (i - n) * sz = i * sz := by rw [← Nat.add_mul]; congr 1; omega
        refine ⟨v, ?_, hr.mono K1⟩
        have hsz0 : (Builtin.zeroCells z.cells m).size = m * sz := by rw [size_zeroCells, hzs]
        rw [Array.getElem?_append_right (by simp only [List.size_toArray, hol]; omega), Array.getElem?_append_left (by rw [hsz0]; simp only [List.size_toArray, hol]; omega)]
        have : i * sz + j - (cs.toList.take (n * sz)).toArray.size = (i - n) * sz + j := by simp only [List.size_toArray, hol]; omega
        rw [this]
        rw [Array.getElem?_toList] at hv; exact hv) (g3.trans hd)
  have hlen : (es.take n ++ List.replicate m zl).length = n + m := by simp; omega
  rw [hlen] at h
  have ha : (#[s, x] : Array Operand).map a.eval = #[a.eval s, a.eval x] := by simp
  refine ⟨_, _, h.1, K1.trans h.2.1, _, ?_, h.2.2⟩
  simp only [execOp, resolve, invoke, builtin, Sem.run_bind, Sem.run_pure, Result.andThen, ha, hv, hxv, hr]
  rfl

/-! ### Zeros in place -/
theorem esc_clear {x : Operand} {t e : TypeId} {tk sz lo n : Nat} {es : List (List PV)} {zl : List PV} (hx : (σ.ev x).strip = .ref tk sz lo n) (ox : (σ.ev x).ok = true) (hk : σ.k tk = .live (.arr e sz es)) (ht : tyElem P t = some (e, sz)) (hz : tyZero P e = some zl) (hzl : zl.length = sz)
    (h1 : ∀ z : Value, zl = z.cells.toList.map PV.ofValue → ∀ v ∈ z.cells.toList, v.oneCell' = true) (h0 : 0 < n) (hle : lo + n ≤ es.length) :
    Esc P σ (.call ⟨.builtin .clear, #[x], #[t]⟩) (.tup []) (upd σ.k tk (.live (.arr e sz (setR es lo (List.replicate n zl))))) ⟨slotOf x, [], [tk]⟩ := by
  refine Esc.write fun τ fr μ n' a w o g1 g2 g3 hop hst => ?_
  obtain ⟨dst, op, ty, pos, af, gd⟩ := o
  simp only at hop; subst hop
  have hi := hst.inv
  have hrx := rep_of hst g1 ox
  rw [hx] at hrx
  have hk' : τ.k tk = .live (.arr e sz es) := g3.trans hk
  obtain ⟨b, A, c, cs, hb, hv, hnc, hA, hlc, hpos, hesz, hh, hcs, hcm, hcell⟩ := ref_arr hi hk' hrx
  obtain ⟨hu, inf, hinf, hisz⟩ := tyElem_run ht
  obtain ⟨z, hzr, hzz, it, hit, hiz⟩ := tyZero_run hz w
  have hA' : A = some ⟨b, lo * sz, none⟩ := hA.resolve_left (by omega)
  subst hA'
  have hzs : z.cells.size = sz := by rw [← hzl, hzz]; simp
  have hall : ∀ y ∈ List.replicate n zl, y.length = sz := fun y hy => by rw [List.eq_of_mem_replicate hy]; exact hzl
  have hnl : (Builtin.zeroCells z.cells n).toList.length = (List.replicate n zl).length * sz := by rw [Array.length_toList, size_zeroCells, hzs, List.length_replicate]
  have hzc := zero_cells (w := w) (C := Cold fr τ.k μ) (μ := μ) hzz n
  rw [hzl] at hzc
  obtain ⟨hw1, hw2, hw3⟩ := arr_write hi hk' hb hall hh hnl hzc (lo := lo) (by simpa using hle)
  have h1c : ∀ v ∈ (Builtin.zeroCells z.cells n).toList, v.oneCell' = true := fun v hv => by
    obtain ⟨i, hi', he⟩ := List.mem_iff_getElem.1 hv
    simp only [Builtin.zeroCells, Array.toList_map, List.getElem_map] at he
    rw [← he]
    have hp : 0 < z.cells.size := by omega
    have hm := Nat.mod_lt ((Array.range (n * z.cells.size)).toList[i]'(by simpa [Builtin.zeroCells] using hi')) hp
    rw [getElem!_pos z.cells _ hm]
    exact h1 z hzz _ (Array.getElem_mem_toList hm)
  have hst' := run_storeCells_at P b (lo * sz) e (Builtin.zeroCells z.cells n).toList 0 cs w hh (by simpa using hw1) h1c
  simp only [Nat.add_zero] at hst'
  have hr : (Builtin.clear_ #[t] ty #[.slice (some ⟨b, lo * sz, none⟩) n c]).run P w = .ok (.tuple #[]) (w.setRow b (setR cs.toList (lo * sz) (Builtin.zeroCells z.cells n).toList).toArray) := by
    obtain ⟨m, rfl⟩ : ∃ m, n = m + 1 := ⟨n - 1, by omega⟩
    simp only [setR]
    simp [Builtin.clear_, run_underlying hu, hzr, hst']
  have ha : (#[x] : Array Operand).map a.eval = #[a.eval x] := by simp
  refine ⟨μ, _, hw2, hw3, .tuple #[], ?_, .base _ _ (.tup _ _ rfl (by simp))⟩
  simp only [execOp, resolve, invoke, builtin, Sem.run_bind, Sem.run_pure, Result.andThen, ha, hv, hr]
end
end Go.V
/- The value logic, part G: full rows become rows again, and rows are opened. Nothing is assumed. -/
set_option linter.unusedVariables false
set_option linter.unusedSimpArgs false
namespace Go.V
open Go.RowKit (Below)

theorem ofValue_one {v : Value} (h : PV.one (fun _ => .fresh) (PV.ofValue v) = true) : v.oneCell' = true := by
  unfold PV.ofValue at h
  split at h <;> first | rfl | cases h
attribute [go_sem] apdC_arr isArr
/- empty slices -/
@[go_sem] theorem strip_emp (b : Bool) : PV.strip (.emp b) = .emp b := Eq.trans rfl rfl
@[go_sem] theorem ok_emp (b : Bool) : PV.ok (.emp b) = true := Eq.trans rfl rfl
@[go_sem] theorem strip_mk_emp (g b : Bool) : PV.strip (PV.mk g (.emp b)) = .emp b := strip_mk _ _ rfl
@[go_sem] theorem ok_mk_emp (g b : Bool) : PV.ok (PV.mk g (.emp b)) = g := by cases g <;> rfl
@[go_sem] theorem one_emp (k0 : Nat → TS) (b : Bool) : PV.one k0 (.emp b) = true := Eq.trans rfl rfl
@[go_sem] theorem oks_emp (k0 : Nat → TS) (b : Bool) : PV.oks k0 (.emp b) = true := Eq.trans rfl rfl
@[go_sem] theorem cells_emp (b : Bool) : PV.cells (.emp b) = [.emp b] := Eq.trans rfl rfl
@[go_sem] theorem nm1_emp (b : Bool) : PV.nm1 (.emp b) = [] := Eq.trans rfl rfl
@[go_sem] theorem nm_emp (b : Bool) : PV.nm (.emp b) = [] := Eq.trans rfl rfl
theorem fa3_cons {α β γ : Type} (p : α → β → γ → Prop) (x : α) (y : β) (z : γ) (l : List (α × β × γ)) : (∀ a b c, (a, b, c) ∈ (x, y, z) :: l → p a b c) ↔ p x y z ∧ ∀ a b c, (a, b, c) ∈ l → p a b c := by
  constructor
  · intro h; exact ⟨h x y z List.mem_cons_self, fun a b c hm => h a b c (List.mem_cons_of_mem _ hm)⟩
  · rintro ⟨h1, h2⟩ a b c hm
    rcases List.mem_cons.1 hm with h | h
    · cases h; exact h1
    · exact h2 a b c h
theorem fa3_nil {α β γ : Type} (p : α → β → γ → Prop) : (∀ a b c, (a, b, c) ∈ ([] : List (α × β × γ)) → p a b c) ↔ True := ⟨fun _ => trivial, fun _ a b c h => by cases h⟩
attribute [go_sem ↓] fa3_cons fa3_nil
section
variable {P : Program} {fr : Fr} {μ : Nat → Option Pl} {k : Nat → TS} {w : World} {n : Nat}
theorem cold_upd {t : Nat} {tk tk' : Tok} (hk : k t = .live tk) (h1 : ∀ o, ¬ tk.cold o) (h2 : ∀ o, ¬ tk'.cold o) : Cold fr (upd k t (.live tk')) μ = Cold fr k μ := by
  funext a
  simp only [Cold, eq_iff_iff]
  refine and_congr Iff.rfl ⟨fun h t' x b hx hm hb => ?_, fun h t' x b hx hm hb => ?_⟩
  · by_cases e : t' = t
    · subst e
      exact absurd (h t' tk' b (upd_same _ _ _) hm hb) (h2 _)
    · exact h t' x b (by rw [upd_ne _ _ _ _ e]; exact hx) hm hb
  · by_cases e : t' = t
    · subst e
      exact absurd (h t' tk b hk hm hb) (h1 _)
    · rw [upd_ne _ _ _ _ e] at hx
      exact h t' x b hx hm hb
/-- The same memory, told in other words. -/
theorem Inv.retell (hi : Inv fr k μ w) {t : Nat} {tk tk' : Tok} (hk : k t = .live tk) (h1 : ∀ o, ¬ tk.cold o) (h2 : ∀ o, ¬ tk'.cold o) (h : ∀ p, μ t = some p → TokRep w (Cold fr k μ) μ p tk → TokRep w (Cold fr k μ) μ p tk') : Inv fr (upd k t (.live tk')) μ w := by
  have hc := cold_upd (fr := fr) (μ := μ) hk h1 h2
  have lv : ∀ {t' x}, upd k t (.live tk') t' = .live x → ∃ y, k t' = .live y := by
    intro t' x hx
    by_cases e : t' = t
    · subst e; exact ⟨_, hk⟩
    · rw [upd_ne _ _ _ _ e] at hx; exact ⟨_, hx⟩
  refine ⟨hi.os, hi.tape, hi.output, hi.size, hi.old, fun t' => ?_, fun t' x hx => ?_, fun t' x b hx hm => ?_, fun a b x y c hx hy hm hm' => ?_, fun t' hx => ?_⟩
  · rw [hi.used t']
    by_cases e : t' = t
    · subst e; rw [upd_same, hk]; simp
    · rw [upd_ne _ _ _ _ e]
  · rw [hc]
    by_cases e : t' = t
    · subst e
      rw [upd_same] at hx; cases hx
      obtain ⟨p, hp, hr⟩ := hi.live t' _ hk
      exact ⟨p, hp, h p hp hr⟩
    · rw [upd_ne _ _ _ _ e] at hx
      exact hi.live t' x hx
  · obtain ⟨y, hy⟩ := lv hx; exact hi.place t' y b hy hm
  · obtain ⟨x', hx'⟩ := lv hx
    obtain ⟨y', hy'⟩ := lv hy
    exact hi.inj a b x' y' c hx' hy' hm hm'
  · by_cases e : t' = t
    · subst e; rw [upd_same] at hx; cases hx
    · rw [upd_ne _ _ _ _ e] at hx; exact hi.dead t' hx
theorem cold_arr {e : TypeId} {sz : Nat} {es : List (List PV)} : ∀ o, ¬ (Tok.arr e sz es).cold o := fun _ h => h
theorem cold_row {e : TypeId} {sz : Nat} {es : List (List PV)} : ∀ o, ¬ (Tok.row e sz es true).cold o := fun _ h => by cases h.1
/-- A full row is a row again: the first elements are told. -/
theorem Le_shut (n : Nat) (σ : St) {t sz : Nat} {e : TypeId} {es : List (List PV)} (m : Nat) (hk : σ.k t = .live (.arr e sz es)) : Le n σ ⟨σ.g, upd σ.k t (.live (.row e sz (es.take m) true))⟩ := by
  intro fr μ a w h
  have hc := cold_upd (fr := fr) (μ := μ) (tk' := .row e sz (es.take m) true) hk cold_arr cold_row
  refine ⟨μ, h.inv.retell hk cold_arr cold_row (fun p hp hr => ?_), h.size, h.defers, fun i => by rw [hc]; exact h.slot i⟩
  obtain ⟨⟨hpos, hall⟩, b, cs, rfl, hh, hs, hm, hcell⟩ := hr
  refine ⟨⟨hpos, fun x hx => hall x (List.mem_of_mem_take hx)⟩, .inr ⟨b, cs, es.length, rfl, hh, hs, by simp; omega, hm, fun i j x y hx hy => ?_⟩⟩
  rw [List.getElem?_take] at hx
  split at hx
  · exact hcell i j x y hx hy
  · cases hx
/-- How such a function ends, where less is told at its end. -/
def FinL (P : Program) (fn : Func) (r : PV) (K1 : List (Nat × Tok)) (e : Exit) (σ : St) : Prop := ∃ τ, Le fn.ntmps σ τ ∧ FinX P fn r K1 e τ
theorem FinL.of {fn : Func} {r : PV} {K1 : List (Nat × Tok)} {e : Exit} {σ : St} (h : FinX P fn r K1 e σ) : FinL P fn r K1 e σ := ⟨σ, Le.refl _ _, h⟩
theorem FinL.shut {fn : Func} {r : PV} {K1 : List (Nat × Tok)} {e : Exit} {σ : St} {t sz : Nat} {el : TypeId} {es : List (List PV)} (m : Nat) (hk : σ.k t = .live (.arr el sz es)) (h : FinX P fn r K1 e ⟨σ.g, upd σ.k t (.live (.row el sz (es.take m) true))⟩) : FinL P fn r K1 e σ := ⟨_, Le_shut _ σ m hk, h⟩
theorem VX.introL {f : FuncId} {fn : Func} {c : Code} {K0 K1 : List (Nat × Tok)} {args : List PV} {r : PV} (hf : P.funcs[f]? = some fn) (hb : fn.body = some c) (hok : fnOk P f = true) (hn : args.length ≤ fn.ntmps)
    (h : VW P fn.ntmps c (FinL P fn r K1) ⟨(St.init args).g, mkK K0⟩) : VX P f K0 args r K1 := by
  refine ⟨hok, fun w S lent μ vs hinv hl hr => ?_⟩
  have h0 : StRep ⟨w, S, lent⟩ μ fn.ntmps ⟨(St.init args).g, mkK K0⟩ { tmps := vs ++ Array.replicate (fn.ntmps - vs.size) undef, defers := [] } w := by
    refine ⟨hinv, by simp; omega, rfl, fun i => ?_⟩
    simp only [St.init]
    by_cases hi : i < vs.size
    · have h1 : (vs ++ Array.replicate (fn.ntmps - vs.size) undef).getD i undef = vs[i] := by
        rw [Array.getD_eq_getD_getElem?, Array.getElem?_append_left hi, Array.getElem?_eq_getElem hi]; rfl
      have h2 : args.getD i (.und .any) = args[i] := by simp [List.getD, List.getElem?_eq_getElem (show i < args.length by omega)]
      rw [h1, h2]
      exact hr i _ _ (Array.getElem?_eq_getElem hi) (List.getElem?_eq_getElem (by omega))
    · have h1 : (vs ++ Array.replicate (fn.ntmps - vs.size) undef).getD i undef = undef := by
        rw [Array.getD_eq_getD_getElem?, Array.getElem?_append_right (by omega)]
        by_cases hj : i - vs.size < fn.ntmps - vs.size
        · rw [Array.getElem?_replicate, if_pos hj]; rfl
        · rw [Array.getElem?_replicate, if_neg hj]; rfl
      have h2 : args.getD i (.und .any) = .und .any := by simp [List.getD, List.getElem?_eq_none (show args.length ≤ i by omega)]
      rw [h1, h2]
      exact .und _
  have hw := VW_run c (FinL P fn r K1) h0 h
  refine calls_of_wp hf hb (Code.wp_mono (fun e a' w' hq => ?_) hw)
  obtain ⟨σ0, μ0, ⟨σ', hle, he, hres⟩, hst0⟩ := hq
  obtain ⟨μ', hst⟩ := hle _ _ _ _ hst0
  split at hres
  · rename_i l hl'
    obtain ⟨M, hren, hok, hj, hM⟩ := hres
    obtain ⟨v, hrun, hrep⟩ := results_run hst hl'
    have hin := Nms.inv hst.inv hok hj
    have hr' := ren_rep (C' := Cold ⟨w, S, lent⟩ M.k (M.μ μ')) (fun a v ha _ => Nms.cold hst.inv hok ha) hren hrep
    rw [Nms.k_mk, hM] at hin hr'
    cases e with
    | normal => exact ⟨hst.defers, v, hrun, v, M.μ μ', rfl, hin, hr'⟩
    | ret => exact ⟨hst.defers, v, hrun, v, M.μ μ', rfl, hin, hr'⟩
    | _ => exact he.elim
  · exact hres.elim
/-- A row that is lent is opened: how much room there is, is said ahead. -/
theorem VX_open {f : FuncId} {K1 : List (Nat × Tok)} {args : List PV} {r : PV} {t sz : Nat} {e : TypeId} {es : List (List PV)} (hne : es ≠ []) (h : ∀ pad, VX P f [(t, .arr e sz (es ++ List.replicate pad (List.replicate sz .any)))] args r K1) : VX P f [(t, .row e sz es true)] args r K1 := by
  refine ⟨(h 0).1, fun w S lent μ vs hinv hl hr => ?_⟩
  have hk : mkK [(t, Tok.row e sz es true)] t = .live (.row e sz es true) := by simp [mkK]
  have hup : ∀ tk, upd (mkK [(t, Tok.row e sz es true)]) t (.live tk) = mkK [(t, tk)] := by
    intro tk; funext i; simp only [upd, mkK]; split <;> rfl
  obtain ⟨p, hp, hsz, hrow⟩ := hinv.live t _ hk
  rcases hrow with ⟨_, h0⟩ | ⟨b, cs, c, rfl, hh, hs, hle, hm, hcell⟩
  · exact absurd h0 hne
  have hi := hinv.retell (tk' := .arr e sz (es ++ List.replicate (c - es.length) (List.replicate sz .any))) hk cold_row cold_arr (fun p hp' hr => by
    rw [hp] at hp'; cases hp'
    refine ⟨⟨hsz.1, fun x hx => ?_⟩, b, cs, rfl, hh, ?_, ?_, fun i j x y hx hy => ?_⟩
    · rcases List.mem_append.1 hx with h | h
      · exact hsz.2 x h
      · rw [List.eq_of_mem_replicate h, List.length_replicate]
    · rw [hs]; congr 1; simp; omega
    · simp; omega
    · by_cases hlt : i < es.length
      · rw [List.getElem?_append_left hlt] at hx; exact hcell i j x y hx hy
      · rw [List.getElem?_append_right (by omega), List.getElem?_replicate] at hx
        split at hx
        · rename_i hi2
          cases hx
          rw [List.getElem?_replicate] at hy
          split at hy
          · rename_i hj
            cases hy
            have hmul : (i + 1) * sz ≤ c * sz := Nat.mul_le_mul_right _ (by omega)
            rw [Nat.add_mul, Nat.one_mul] at hmul
            exact ⟨_, Array.getElem?_eq_getElem (show i * sz + j < cs.size by omega), .any' _⟩
          · cases hy
        · cases hx)
  have hc := cold_upd (fr := ⟨w, S, lent⟩) (μ := μ) (tk' := .arr e sz (es ++ List.replicate (c - es.length) (List.replicate sz .any))) hk cold_row cold_arr
  rw [hup] at hi hc
  exact (h _).2 w S lent μ vs hi hl (fun i v x hv hx => by rw [hc]; exact hr i v x hv hx)
theorem sl_nil {w : World} {C : Addr → Prop} {μ : Nat → Option Pl} {v : Value} (h : RepV w C μ v (.sl [])) : ∃ A c, v = .slice A 0 c := by
  cases h.sl_inv with
  | sl0 A c => exact ⟨A, c, rfl⟩
  | sl b o c n sz es u hn hpos hc hsz hcell hC h => subst hn; exact ⟨_, c, rfl⟩
/-- An empty slice is nil, or it is not. -/
theorem VX_emp {f : FuncId} {K0 K1 : List (Nat × Tok)} {args : List PV} {r : PV} (h : ∀ b, VX P f K0 (.emp b :: args) r K1) : VX P f K0 (.sl [] :: args) r K1 := by
  refine ⟨(h true).1, fun w S lent μ vs hinv hl hr => ?_⟩
  have h0 : 0 < vs.size := by rw [hl]; simp
  obtain ⟨A, c, hv⟩ := sl_nil (hr 0 vs[0] (.sl []) (Array.getElem?_eq_getElem h0) rfl)
  refine (h A.isNone).2 w S lent μ vs hinv (by simpa using hl) (fun i v x hvi hx => ?_)
  cases i with
  | zero =>
    rw [Array.getElem?_eq_getElem h0] at hvi
    cases hx; cases hvi
    rw [hv]; exact .base _ _ (.emp A c)
  | succ i => exact hr (i + 1) v x hvi hx
theorem VF_emp {f : FuncId} {args : List PV} {r : PV} (h : ∀ b, VF P f (.emp b :: args) r) : VF P f (.sl [] :: args) r := by
  refine ⟨(h true).1, fun w S vs hl hr => ?_⟩
  have h0 : 0 < vs.size := by rw [hl]; simp
  obtain ⟨A, c, hv⟩ := sl_nil (μ := fun _ => none) (.base _ _ (hr 0 vs[0] (.sl []) (Array.getElem?_eq_getElem h0) rfl))
  refine (h A.isNone).2 w S vs (by simpa using hl) (fun i v x hvi hx => ?_)
  cases i with
  | zero =>
    rw [Array.getElem?_eq_getElem h0] at hvi
    cases hx; cases hvi
    rw [hv]; exact .emp A c
  | succ i => exact hr (i + 1) v x hvi hx

/-! ### Does memory overlap? -/
theorem run_overlaps_own (w : World) (tS tR e : TypeId) (ht : P.underlying tS = some (.slice e)) (size : Nat) (hz : ∀ w, (Go.sizeOf e).run P w = .ok size w)
    (a b : Addr) (la ca lb cb : Nat) (hne : a.block ≠ b.block) (tA : TypeId) (kA : Nat) (hsa : w.shape? a.block = some (tA, kA + 1)) (eB : TypeId) (cs : Array Value) (hb : w.heap[b.block]? = some (.cells cs eB (0, 0))) (hk : cs.size ≠ 0) :
    (Extern.SlicesOverlaps.overlaps #[tS, tS] #[tR] #[.slice (some a) la ca, .slice (some b) lb cb]).run P w = .ok (.bool false) w := by
  have hnb : (a.block != b.block) = true := by simpa using hne
  have hnb' : (a.block == b.block) = false := by simpa using hne
  have hsb : w.shape? b.block = some (eB, cs.size) := by simp [World.shape?, hb]
  have hf : ∀ o, w.frozen? { block := b.block, off := o } = false := fun o => by
    simp only [World.frozen?, hb]; simp
  have hf' : w.frozen? b = false := by
    simp only [World.frozen?, hb]; simp
  change Sem.run P (α := Value) (do
    let some t := (#[tS, tS] : Array TypeId)[0]? | stuck "slices.overlaps: no parameter types"
    let .slice elem ← underlying t | stuck "slices.overlaps: slice type expected"
    let size ← sizeOf elem
    match (some a : Option Addr), (some b : Option Addr) with
    | some a, some b =>
      if la = 0 ∨ lb = 0 ∨ size = 0 then pure (Value.bool false)
      else if a.block != b.block && (← frozen a) && (← frozen b) then unsupported .addressObserved
      else do
        if a.block != b.block then do
          noView a; noView b
          if ← mayBeOne a b then return Value.bool ((← choose (.extern "sameAddr.stringBytes" 2)) == 1)
        pure (Value.bool (a.block == b.block && a.off < b.off + lb * size && b.off < a.off + la * size))
    | _, _ => pure (Value.bool false)) w = _
  by_cases h0 : la = 0 ∨ lb = 0 ∨ size = 0
  · simp [run_underlying ht, hz, h0]
  · cases hkB : cs.size with
    | zero => exact absurd hkB hk
    | succ kB =>
      rw [hkB] at hsb
      cases hfa : w.frozen? a <;> cases hfe : w.frozen? { block := a.block, off := kA + 1 } <;>
        simp [run_underlying ht, hz, h0, hnb, hnb', frozen, noView, viewAt, mayBeOne, stringish, shape, Sem.run, hsa, hsb, hfa, hfe, hf, hf']
theorem run_overlaps_zero (w : World) (tS tR e : TypeId) (ht : P.underlying tS = some (.slice e)) (size : Nat) (hz : ∀ w, (Go.sizeOf e).run P w = .ok size w) (A B : Option Addr) (la ca cb : Nat) :
    (Extern.SlicesOverlaps.overlaps #[tS, tS] #[tR] #[.slice A la ca, .slice B 0 cb]).run P w = .ok (.bool false) w := by
  change Sem.run P (α := Value) (do
    let some t := (#[tS, tS] : Array TypeId)[0]? | stuck "slices.overlaps: no parameter types"
    let .slice elem ← underlying t | stuck "slices.overlaps: slice type expected"
    let size ← sizeOf elem
    match A, B with
    | some a, some b =>
      if la = 0 ∨ 0 = 0 ∨ size = 0 then pure (Value.bool false)
      else if a.block != b.block && (← frozen a) && (← frozen b) then unsupported .addressObserved
      else do
        if a.block != b.block then do
          noView a; noView b
          if ← mayBeOne a b then return Value.bool ((← choose (.extern "sameAddr.stringBytes" 2)) == 1)
        pure (Value.bool (a.block == b.block && a.off < b.off + 0 * size && b.off < a.off + la * size))
    | _, _ => pure (Value.bool false)) w = _
  cases A <;> cases B <;> simp [run_underlying ht, hz]
theorem esc_overlaps {σ : St} {f : FuncId} {fn : Func} {x y : Operand} {tys : Array TypeId} {tS tR e e' : TypeId} {tk sz sz' lo n : Nat} {es ys : List (List PV)} (hf : P.funcs[f]? = some fn) (hname : (fn.name == "runtime.NumGoroutine") = false) (hb : fn.body.isNone = true) (hn : Extern.findNext fn = none)
    (he : Extern.find fn = some (Extern.SlicesOverlaps.overlaps #[tS, tS] #[tR])) (ht : tyElem P tS = some (e, sz')) (hx : (σ.ev x).strip = .sl ys) (ox : (σ.ev x).ok = true) (hy0 : ys ≠ []) (hy : (σ.ev y).strip = .ref tk sz lo n) (oy : (σ.ev y).ok = true) (hk : σ.k tk = .live (.arr e' sz es)) (hes : es ≠ []) :
    Esc P σ (.call ⟨.value (.func f), #[x, y], tys⟩) (.bool false) σ.k ⟨slotOf x ++ slotOf y, [tk], []⟩ := by
  refine Esc.quiet fun τ fr μ n' a w o g1 g2 hop hst => ?_
  obtain ⟨dst, op, ty, pos, af, gd⟩ := o
  simp only at hop; subst hop
  have hi := hst.inv
  have hrx := rep_of hst (sub_left g1) ox
  have hry := rep_of hst (sub_right g1) oy
  rw [hx] at hrx
  rw [hy] at hry
  have hk' : τ.k tk = .live (.arr e' sz es) := (g2 tk (by simp)).trans hk
  obtain ⟨b, A, c, cs, hb', hv, hnc, hA, hlc, hpos, hesz, hh, hcs, hm, hcell⟩ := ref_arr hi hk' hry
  have hne0 : cs.size ≠ 0 := by rw [hcs]; exact Nat.mul_ne_zero (by have := List.length_pos_iff.2 hes; omega) (by omega)
  have hu := tyElem_und ht
  obtain ⟨hu', inf, hinf, hisz⟩ := tyElem_run ht
  have ha : (#[x, y] : Array Operand).map a.eval = #[a.eval x, a.eval y] := by simp
  refine ⟨.bool false, ?_, .base _ _ (.bool _)⟩
  have hrun : (Extern.SlicesOverlaps.overlaps #[tS, tS] #[tR] #[a.eval x, a.eval y]).run P w = .ok (.bool false) w := by
    have h0 := hrx.sl_inv
    generalize a.eval x = vx at h0 ⊢
    cases h0 with
    | sl0 A c => exact absurd rfl hy0
    | sl b2 o2 c2 n2 sz2 _ u hn2 hpos2 hc2 hsz2 hcell2 hC2 hr2 =>
      have hyl : 0 < ys.length := List.length_pos_iff.2 hy0
      have hcell0 := hcell2 0 0 hyl hpos2
      have hC0 := hC2 0 0 hyl hpos2
      rw [hv]
      have hsz : ∀ w, (Go.sizeOf e).run P w = .ok sz' w := fun w => by simp [sizeOf, typeInfo, hinf, hisz]
      rcases hA with h0 | h0
      · have : n = 0 := by omega
        subst this
        exact run_overlaps_zero w tS tR e hu sz' hsz _ _ _ _ _
      · subst h0
        have hne : b2 ≠ b := fun h => hC0.2 tk _ b hk' hb' h
        have hsh : ∃ t k, w.shape? b2 = some (t, k + 1) := by
          simp only [World.cell?] at hcell0
          unfold World.shape?
          revert hcell0
          cases hhb : w.heap[b2]? with
          | none => intro h; simp at h
          | some ob => cases ob with
            | cells c t z =>
              intro h
              by_cases hlt : o2 < c.size
              · exact ⟨t, c.size - 1, by simp; omega⟩
              · simp [hlt] at h
            | _ => intro h; simp at h
        obtain ⟨tA, kA, hsh⟩ := hsh
        exact run_overlaps_own w tS tR e hu sz' hsz ⟨b2, o2, none⟩ ⟨b, lo * sz, none⟩ _ _ _ _ hne tA kA hsh e' cs hh hne0
  have hfe : a.eval (.func f) = .func (.func f) #[] #[] := rfl
  simp only [execOp, resolve, hfe, Deferred.ofValue, Sem.run_bind, Sem.run_pure, Result.andThen, ha]
  have h2 := run_callFunc_extern hf hname hb hn he #[a.eval x, a.eval y] w
  rw [hrun] at h2
  simp only [invoke]
  simpa [Result.andThen] using h2
end
end Go.V
