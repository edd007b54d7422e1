/- A part of the proof, merged out of smaller texts. Nothing is assumed. -/
import Derived.Test.YtkghcmcapmblgaaGreatDoorXA
import Derived.Orders
import Derived.IntWalk
set_option linter.all false
/- The value logic, part 11: operations in a state are sound. Nothing is assumed. -/
set_option linter.unusedVariables false
set_option linter.unusedSimpArgs false
namespace Go.V
open Go.RowKit (Below)

section
variable {P : Program} {fr : Fr} {μ μ' : Nat → Option Pl} {w w' : World} {n : Nat} {σ : St} {a : Act}

theorem srcs_len {k : Nat → TS} (hi : Inv fr k μ w) {v : Value} {es : List (List PV)} (h : RepV w (Cold fr k μ) μ v (.sl es)) (hx : srcs k (.sl es) = some es) : ∃ A c, v = .slice A es.length c ∧ True := by
  cases h.sl_inv with
  | sl0 A c => exact ⟨A, c, rfl, trivial⟩
  | sl b o c n sz0 es us hn hpos hcap hlen hcell hC hrep => subst hn; exact ⟨_, c, rfl, trivial⟩
theorem run_len {k : Nat → TS} (hi : Inv fr k μ w) {v : Value} {x z : PV} {t ty : TypeId} (hx : RepV w (Cold fr k μ) μ v x) (h : vlen P k t x = some z) :
    ∃ u, (Builtin.len_ #[t] ty #[v]).run P w = .ok u w ∧ RepV w (Cold fr k μ) μ u z := by
  have tyE : (tyElem P t).isSome = true → ∃ e, P.underlying t = some (.slice e) := by
    intro hh
    obtain ⟨⟨e, sz⟩, he⟩ := Option.isSome_iff_exists.1 hh
    exact ⟨e, (tyElem_run he).1⟩
  unfold vlen at h
  split at h
  · rename_i s
    obtain ⟨b, rfl, rfl⟩ := hx.str_inv
    split at h
    · rename_i ht
      cases h
      refine ⟨.int .i64 b.size, ?_, .base _ _ (by simpa using Rep0.int .i64 (b.size : Int))⟩
      simp [Builtin.len_, run_underlying (tyIs_string ht), goInt]
    · cases h
  · rename_i es
    split at h
    · rename_i ht
      cases h
      obtain ⟨e, he⟩ := tyE ht
      obtain ⟨A, c, rfl, _⟩ := srcs_len hi hx rfl
      exact ⟨.int .i64 es.length, by simp [Builtin.len_, run_underlying he, goInt], .base _ _ (.int _ _)⟩
    · cases h
  · split at h
    · rename_i ht
      cases h
      obtain ⟨e, he⟩ := tyE ht
      obtain rfl := hx.nils_inv
      exact ⟨.int .i64 0, by simp [Builtin.len_, run_underlying he, goInt], .base _ _ (.int _ _)⟩
    · cases h
  · rename_i tk sz lo m
    split at h
    · rename_i ht
      simp only [Bool.and_eq_true] at ht
      cases h
      obtain ⟨e, he⟩ := tyE ht.1
      cases hx with
      | base _ _ hx => cases hx
      | ref _ _ _ _ _ hu hn hat =>
        refine ⟨.int .i64 m, ?_, .base _ _ (.int _ _)⟩
        by_cases hnn : μ tk = some .nil
        · obtain ⟨_, rfl, rfl⟩ := hn hnn
          simp [Builtin.len_, run_underlying he, goInt]
        · obtain ⟨b, hb⟩ := live_at hi ht.2 hnn
          obtain ⟨A, c, rfl, _⟩ := hat b hb
          simp [Builtin.len_, run_underlying he, goInt]
    · cases h
  · cases h
theorem vop_run (h : StRep fr μ n σ a w) {o : Oper} {v : PV} (hv : vop P σ o.op = some v) (hg : vgood σ o.op = true) :
    ∃ u, (execOp a.eval o).run P w = .ok (.value u) w ∧ RepV w (Cold fr σ.k μ) μ u v := by
  have hi := h.inv
  have ev : ∀ x : Operand, (σ.ev x).ok = true → RepV w (Cold fr σ.k μ) μ (a.eval x) (σ.ev x).strip := fun x hx => strip_rep (ev_rep h.slot x) hx
  obtain ⟨dst, op, ty, pos, after, guard⟩ := o
  have val : ∀ {m : Sem Value} {u : Value}, m.run P w = .ok u w → (do pure (.value (← m)) : Sem Next).run P w = .ok (.value u) w := by
    intro m u hm; simp only [Sem.run_bind, hm, Result.andThen]; rfl
  cases op with
  | move x =>
    simp only [vop, Option.some.injEq] at hv; subst hv
    exact ⟨_, rfl, ev x (by simpa [vgood, Op.operands] using hg)⟩
  | assign x =>
    simp only [vop, Option.some.injEq] at hv; subst hv
    exact ⟨_, rfl, ev x (by simpa [vgood, Op.operands] using hg)⟩
  | pick c x y =>
    simp only [vop] at hv
    simp only [vgood, Bool.and_eq_true] at hg
    split at hv
    · rename_i t ht
      cases hv
      have hc := ev c hg.1
      rw [ht] at hc
      have hcv := hc.bool_inv
      refine ⟨if t then a.eval x else a.eval y, ?_, ?_⟩
      · simp only [execOp, Sem.run_bind, hcv, asBool, Sem.run_pure, Result.andThen]
      · have hg2 := hg.2
        rw [ht] at hg2
        cases t with
        | true => simp only [psel, if_true] at hg2 ⊢; exact ev x hg2
        | false => simp only [psel, Bool.false_eq_true, if_false] at hg2 ⊢; exact ev y hg2
    · cases hv
  | binOp op t x y t' =>
    simp only [vop] at hv
    simp only [vgood, Op.operands, List.all_cons, List.all_nil, Bool.and_true, Bool.and_eq_true] at hg
    obtain ⟨u, hu, hr⟩ := run_bin (xo := x) (yo := y) (ev x hg.1) (ev y hg.2) hv
    exact ⟨u, val hu, .base _ _ hr⟩
  | unOp op t x =>
    simp only [vop] at hv
    obtain ⟨u, hu, hr⟩ := run_un (P := P) (ev x (by simpa [vgood, Op.operands] using hg)) hv
    exact ⟨u, val hu, .base _ _ hr⟩
  | convert s t x =>
    simp only [vop] at hv
    obtain ⟨u, hu, hr⟩ := run_conv (ev x (by simpa [vgood, Op.operands] using hg)) hv
    exact ⟨u, val hu, .base _ _ hr⟩
  | extract x i =>
    simp only [vop] at hv
    obtain ⟨u, hu, hr⟩ := run_ext (P := P) (ev x (by simpa [vgood, Op.operands] using hg)) hv
    exact ⟨u, val hu, hr⟩
  | index t x i =>
    simp only [vop] at hv
    simp only [vgood, Op.operands, List.all_cons, List.all_nil, Bool.and_true, Bool.and_eq_true] at hg
    obtain ⟨u, hu, hr⟩ := run_idx (ev x hg.1) (ev i hg.2) hv
    exact ⟨u, val hu, .base _ _ hr⟩
  | fieldAddr s x f =>
    simp only [vop] at hv
    split at hv
    · rename_i hl
      obtain ⟨u, hu, hr⟩ := run_fa hi (ev x (by simpa [vgood, Op.operands] using hg)) hl hv
      exact ⟨u, val hu, hr⟩
    · cases hv
  | indexAddr t x i =>
    simp only [vop] at hv
    simp only [vgood, Op.operands, List.all_cons, List.all_nil, Bool.and_true, Bool.and_eq_true] at hg
    split at hv
    · rename_i hl
      obtain ⟨u, hu, hr⟩ := run_ia hi (ev x hg.1) (ev i hg.2) hl hv
      exact ⟨u, val hu, hr⟩
    · cases hv
  | load t x =>
    simp only [vop] at hv
    obtain ⟨u, hu, hr⟩ := run_ld hi (ev x (by simpa [vgood, Op.operands] using hg)) hv
    exact ⟨u, val hu, hr⟩
  | slice t x lo hi' mx =>
    cases mx with
    | some m => simp [vop] at hv
    | none =>
      simp only [vop] at hv
      have hgx : (σ.ev x).ok = true ∧ (∀ y, lo = some y → (σ.ev y).ok = true) ∧ (∀ y, hi' = some y → (σ.ev y).ok = true) := by
        cases lo <;> cases hi' <;> simp [vgood, Op.operands] at hg <;> simp [hg]
      have hlo : ORep w (Cold fr σ.k μ) μ (lo.map fun y => (σ.ev y).strip) (lo.map a.eval) := by
        cases lo with | none => exact trivial | some y => exact ev y (hgx.2.1 y rfl)
      have hhi : ORep w (Cold fr σ.k μ) μ (hi'.map fun y => (σ.ev y).strip) (hi'.map a.eval) := by
        cases hi' with | none => exact trivial | some y => exact ev y (hgx.2.2 y rfl)
      split at hv
      · rename_i s hs
        have hx := ev x hgx.1
        rw [hs] at hx
        obtain ⟨u, hu, hr⟩ := run_cut hx hlo hhi hv
        exact ⟨u, val hu, .base _ _ hr⟩
      · unfold slK at hv
        split at hv
        · rename_i m hm
          obtain ⟨u, hu, hr⟩ := run_slaA hi (ev x hgx.1) hm hlo hhi hv
          exact ⟨u, val hu, hr⟩
        · split at hv
          · rename_i hl
            obtain ⟨u, hu, hr⟩ := run_sla hi (ev x hgx.1) hl hlo hhi hv
            exact ⟨u, val hu, hr⟩
          · cases hv
  | build t ps =>
    simp only [vop] at hv
    split at hv
    · rename_i hok
      have hgp : ∀ p ∈ ps.toList, (σ.ev p.2).ok = true := by
        intro p hp
        simp only [vgood, Op.operands] at hg
        exact List.all_eq_true.1 hg _ (by simpa using ⟨p.1, by simpa using hp⟩)
      have hrun := run_bld (P := P) hi (t := t) (ps := ps.toList.map fun p => (p.1, (σ.ev p.2).strip)) (vs := ps.map fun (i, x) => (i, a.eval x)) (by simp [List.map_map, Function.comp_def]) (fun i p v hp hv' => by
        rw [List.getElem?_map] at hp
        rw [Array.toList_map, List.getElem?_map] at hv'
        cases hpi : ps.toList[i]? with
        | none => simp [hpi] at hp
        | some q =>
          simp only [hpi, Option.map_some] at hp hv'
          cases hp; cases hv'
          have hm := List.mem_of_getElem? hpi
          exact ⟨ev q.2 (hgp q hm), List.all_eq_true.1 hok q hm⟩) hv
      obtain ⟨u, hu, hr⟩ := hrun
      exact ⟨u, val hu, hr⟩
    · cases hv
  | makeFunc f first cs =>
    simp only [vop] at hv
    split at hv
    · rename_i f' hfirst
      simp only [Option.some.injEq] at hv
      subst hv
      have hf0 : first = #[] := by simpa using hfirst
      subst hf0
      refine ⟨.func (.func f') #[] (cs.map a.eval), ?_, .fn _ _ _ (by simp) (fun i v x hv hx => ?_)⟩
      · simp [execOp, Instr.makeFunc]
      · rw [Array.getElem?_map] at hv
        rw [List.getElem?_map] at hx
        cases hci : cs.toList[i]? with
        | none => simp [hci] at hx
        | some y =>
          have hci' : cs[i]? = some y := by simpa using hci
          simp only [hci, Option.map_some] at hx
          simp only [hci', Option.map_some] at hv
          cases hx; cases hv
          refine ev y ?_
          simp only [vgood, Op.operands] at hg
          exact List.all_eq_true.1 hg _ (by simpa using List.mem_of_getElem? hci)
    · cases hv
  | call c =>
    obtain ⟨cal, args, tys⟩ := c
    simp only [vop] at hv
    split at hv
    · rename_i x t ha ht
      have hargs : args = #[x] := by apply Array.toList_inj.1; exact ha
      have htys : tys = #[t] := by apply Array.toList_inj.1; exact ht
      subst hargs
      subst htys
      have hx := ev x (by simpa [vgood, Op.operands, Call.operands] using hg)
      obtain ⟨u, hu, hr⟩ := run_len hi (ty := ty) hx hv
      refine ⟨u, ?_, hr⟩
      have he : (#[x] : Array Operand).map a.eval = #[a.eval x] := by simp
      simp only [execOp, resolve, invoke, builtin, Sem.run_bind, Sem.run_pure, Result.andThen, he, hu]
    · cases hv
  | _ => simp [vop] at hv
end

end Go.V
/- The value logic, part 12: regions. Nothing is assumed. -/
set_option linter.unusedVariables false
set_option linter.unusedSimpArgs false
namespace Go.V
open Go.RowKit (Below)

def dstOk (n : Nat) : Option Tmp → Bool
  | some d => decide (d < n)
  | none => true
/-- What an append comes to: element type and size, bytes, the old and the new elements, may the old ones be written, the old name. -/
def apdC (P : Program) (k : Nat → TS) (t : TypeId) (s x : PV) : Option (TypeId × Nat × Nat × List (List PV) × List (List PV) × Bool × Option Nat) :=
  match tyElem P t with
  | some (e, sz) => match tyBytes P e, tyZero P e, srcs k x with
    | some by', some z, some ys =>
      if 0 < sz ∧ 0 < by' ∧ z.length = sz ∧ (ys.all fun y => y.length == sz && y.all (PV.one k)) = true then
        match s with
        | .nils => some (e, sz, by', [], ys, true, none)
        | .ref tk sz' lo n => match k tk with
          | .live (.row e' sz2 es wr) => if sz' = sz ∧ sz2 = sz ∧ e' = e ∧ lo = 0 ∧ n = es.length then some (e, sz, by', es, ys, wr, some tk) else none
          | _ => none
        | _ => none
      else none
    | _, _, _ => none
  | none => none
/-- A step by hand. -/
def EscK (P : Program) (σ : St) (op : Op) (K : PV → (Nat → TS) → Fp → Prop) : Prop := ∃ v k f, Esc P σ op v k f ∧ K v k f
def isArr : TS → Bool
  | .live (.arr ..) => true
  | _ => false
/-- A step by hand at a full row. -/
def EscA (P : Program) (σ : St) (s : Operand) (op : Op) (K : PV → (Nat → TS) → Fp → Prop) : Prop := match (σ.ev s).strip with
  | .ref tk _ _ _ => isArr (σ.k tk) = true ∧ ∃ v k f, Esc P σ op v k f ∧ ((∀ i ∈ slotOf s, i ∈ f.ins) ∧ tk ∈ f.rd ++ f.wr) ∧ K v k f
  | _ => False
theorem apdC_arr {P : Program} {k : Nat → TS} {t : TypeId} {x : PV} {tk sz lo n : Nat} (h : isArr (k tk) = true) : apdC P k t (.ref tk sz lo n) x = none := by
  unfold apdC
  cases hk : k tk with
  | live tk' => cases tk' with
    | arr e sz es =>
      simp only [hk]
      repeat' split
      all_goals rfl
    | _ => rw [hk] at h; cases h
  | _ => rw [hk] at h; cases h
theorem EscA.k {P : Program} {σ : St} {s : Operand} {op : Op} {K : PV → (Nat → TS) → Fp → Prop} (h : EscA P σ s op K) : EscK P σ op K := by
  unfold EscA at h
  split at h
  · obtain ⟨_, v, k, f, h1, _, h2⟩ := h; exact ⟨v, k, f, h1, h2⟩
  · exact h.elim
/-- Operations that make or write memory. -/
def VE (P : Program) (σ : St) (d : Nat) (op : Op) (K : PV → (Nat → TS) → Fp → Prop) : Prop :=
  match op with
  | .alloc e => (match σ.k d with | .fresh => True | _ => False) ∧ match tyZero P e with
    | some xs => K (.ptr d 0) (upd σ.k d (.live (.box xs true))) ⟨[], [], [d]⟩
    | none => False
  | .box e x => (match σ.k d with | .fresh => True | _ => False) ∧ (σ.ev x).ok = true ∧ (σ.ev x).strip.oks σ.k = true ∧ K (.ptr d 0) (upd σ.k d (.live (.box (σ.ev x).strip.cells true))) ⟨slotOf x, (σ.ev x).strip.nm, [d]⟩
  | .store t p x => (σ.ev p).ok = true ∧ (σ.ev x).ok = true ∧ (σ.ev x).strip.oks σ.k = true ∧ match stv P σ.k t (σ.ev p).strip (σ.ev x).strip with
    | some (tn, tk) => K (.und .any) (upd σ.k tn (.live tk)) ⟨slotOf p ++ slotOf x, (σ.ev x).strip.nm, [tn]⟩
    | none => False
  | .buildSlice t len ps => (match σ.k d with | .fresh => True | _ => False) ∧ (ps.toList.all fun p => (σ.ev p.2).ok) = true ∧ match bsl P σ.k t len (ps.toList.map fun p => (p.1, (σ.ev p.2).strip)) with
    | some (e, sz, es) => K (.ref d sz 0 es.length) (upd σ.k d (.live (.row e sz es true))) ⟨ps.toList.flatMap fun p => slotOf p.2, ps.toList.flatMap fun p => (σ.ev p.2).strip.nm, [d]⟩
    | none => False
  | .call c => match c.callee, c.args.toList, c.argTypes.toList with
    | .builtin .append, [s, x], [t, t'] => if t = t' then match apdC P σ.k t (σ.ev s).strip (σ.ev x).strip with
      | some (e, sz, by', es, ys, wr, old) => (match σ.k d with | .fresh => True | _ => False) ∧ (σ.ev s).ok = true ∧ (σ.ev x).ok = true ∧ (es.length + ys.length) * by' ≤ 140737488355328 ∧ K (.ref d sz 0 (es.length + ys.length)) (apk σ.k old d (.row e sz (es ++ ys) wr)) ⟨slotOf s ++ slotOf x, (σ.ev x).strip.nm ++ ys.flatMap (fun y => y.flatMap PV.nm1), d :: old.toList⟩
      | none => EscA P σ s (.call c) K
      else EscK P σ (.call c) K
    | _, _, _ => EscK P σ (.call c) K
  | op => EscK P σ op K
/-- The function that a call goes to, and what it is handed. -/
def callOf (σ : St) (c : Call) : Option (FuncId × List PV) :=
  match c.callee with
  | .value f => match (σ.ev f).strip with
    | .fn f caps => some (f, (c.args.toList.map fun x => (σ.ev x).strip) ++ caps)
    | _ => none
  | _ => none
/-- A call by contract. -/
def VC1 (P : Program) (σ : St) (g : Bool) (c : Call) (f : FuncId) (xs : List PV) (K : PV → (Nat → TS) → Fp → Prop) : Prop :=
  ∃ r, (g = true → (c.operands.toList.all fun x => (σ.ev x).ok) = true ∧ VF P f (xs.map (roS 4 σ.k)) r) ∧
      (if r.flat || (xs.flatMap (deS 4 σ.k)).isEmpty then K (.mk g r) σ.k ⟨c.operands.toList.flatMap slotOf, xs.flatMap (deS 4 σ.k), []⟩
       else g = true ∧ K r (frz (xs.flatMap (deS 4 σ.k)) σ.k) ⟨c.operands.toList.flatMap slotOf, [], xs.flatMap (deS 4 σ.k)⟩)
/-- A call that is lent rows, or gives some. -/
def VC2 (P : Program) (σ : St) (g : Bool) (c : Call) (f : FuncId) (xs : List PV) (K : PV → (Nat → TS) → Fp → Prop) : Prop :=
  ∃ (M : Nms) (D : List Nat) (as : List PV) (r : PV) (K1 : List (Nat × Tok)), (g = true ∧ (c.operands.toList.all fun x => (σ.ev x).ok) = true ∧ argsX M σ.k D xs as ∧ M.ok σ.k ∧ M.inj = true ∧ M.wrs = true ∧
    (∀ t ∈ D, t ∉ M.lo) ∧ (∀ p ∈ K1, σ.k p.1 = .fresh) ∧ VX P f (M.map fun p => (p.1, p.2.2)) as r K1) ∧ K r (aft M D K1 σ.k) ⟨c.operands.toList.flatMap slotOf, [], M.lo ++ D ++ K1.map (·.1)⟩
/-- A call that is told by hand. -/
def VC3 (P : Program) (σ : St) (g : Bool) (c : Call) (K : PV → (Nat → TS) → Fp → Prop) : Prop :=
  g = true ∧ (c.operands.toList.all fun x => (σ.ev x).ok) = true ∧ ∃ v k f, Esc P σ (.call c) v k f ∧ (∀ s ∈ c.operands.toList.flatMap slotOf, s ∈ f.ins) ∧ K v k f
theorem VC3.k {P : Program} {σ : St} {g : Bool} {c : Call} {K : PV → (Nat → TS) → Fp → Prop} (h : VC3 P σ g c K) : EscK P σ (.call c) K :=
  let ⟨_, _, v, k, f, h1, _, h2⟩ := h; ⟨v, k, f, h1, h2⟩
def VC (P : Program) (σ : St) (g : Bool) (c : Call) (K : PV → (Nat → TS) → Fp → Prop) : Prop :=
  match callOf σ c with
  | some (f, xs) => VC1 P σ g c f xs K ∨ VC2 P σ g c f xs K ∨ VC3 P σ g c K
  | none => False
inductive OpK | pure | call (c : Call) | eff
def opK (op : Op) : OpK :=
  match op with
  | .alloc _ => .eff
  | .box _ _ => .eff
  | .store _ _ _ => .eff
  | .buildSlice _ _ _ => .eff
  | .call c => match c.callee with
    | .value _ => .call c
    | .builtin .len => .pure
    | _ => .eff
  | .slice _ _ _ _ (some _) => .eff
  | .makeSlice .. => .eff
  | .makeMap .. => .eff
  | .insert .. => .eff
  | .mapUpdate .. => .eff
  | .lookup .. => .eff
  | .field .. => .eff
  | .range .. => .eff
  | .next .. => .eff
  | .makeInterface .. => .eff
  | .typeAssert .. => .eff
  | _ => .pure
/-- Is a slot's bool so? -/
def gb (want : Bool) : PV → Bool
  | .bool b => b == want
  | _ => false
def isB : PV → Bool
  | .bool _ => true
  | .und _ => true
  | _ => false
def gslot (ds : List (Option Tmp)) (j : Nat) : Option Tmp := match ds[j]? with | some (some t) => some t | _ => none
def vopNm (σ : St) (op : Op) : List Nat := match op with
  | .load _ x => (σ.ev x).strip.nm1
  | .fieldAddr _ x _ => (σ.ev x).strip.nm1
  | .indexAddr _ x _ => (σ.ev x).strip.nm1
  | .slice _ x _ _ _ => (σ.ev x).strip.nm1
  | .build _ ps => ps.toList.flatMap fun p => (σ.ev p.2).strip.nm
  | .call c => c.args.toList.flatMap fun x => (σ.ev x).strip.nm1
  | _ => []
def VO (P : Program) (n : Nat) (ds : List (Option Tmp)) (d : Nat) (o : Oper) (σ : St) (K : St → Fp → Prop) : Prop :=
  dstOk n o.dst = true ∧
  match o.guard with
  | none => match opK o.op with
    | .pure => vgood σ o.op = true ∧ match vop P σ o.op with
      | some v => K (σ.put o.dst v) ⟨o.op.operands.toList.flatMap slotOf, vopNm σ o.op, []⟩
      | none => False
    | .call c => VC P σ true c fun v k f => K (St.put ⟨σ.g, k⟩ o.dst v) f
    | .eff => VE P σ d o.op fun v k f => K (St.put ⟨σ.g, k⟩ o.dst v) f
  | some (j, want) => match gslot ds j with
    | some t => isB (σ.g t) = true ∧ match opK o.op with
      | .pure => (gb want (σ.g t) = true → vgood σ o.op = true) ∧ match vop P σ o.op with
        | some v => K (σ.put o.dst (.mk (gb want (σ.g t)) v)) ⟨t :: o.op.operands.toList.flatMap slotOf, vopNm σ o.op, []⟩
        | none => gb want (σ.g t) = false ∧ K (σ.put o.dst (.und .any)) ⟨t :: o.op.operands.toList.flatMap slotOf, vopNm σ o.op, []⟩
      | .call c => VC P σ (gb want (σ.g t)) c fun v k f => K (St.put ⟨σ.g, k⟩ o.dst v) ⟨t :: f.ins, f.rd, f.wr⟩
      | .eff => (gb want (σ.g t) = true → VE P σ d o.op fun v k f => K (St.put ⟨σ.g, k⟩ o.dst v) ⟨t :: f.ins, f.rd, f.wr⟩) ∧ (gb want (σ.g t) = false → K (σ.put o.dst (.und .any)) ⟨[t], [], []⟩)
    | none => False
def VL (P : Program) (n : Nat) (ds : List (Option Tmp)) (nb : Nat) : List Oper → St → List Fp → (St → List Fp → Prop) → Prop
  | [], σ, L, K => K σ L
  | o :: r, σ, L, K => VO P n ds nb o σ fun σ' f => VL P n ds (nb + 1) r σ' (f :: L) K

section
variable {P : Program} {fr : Fr} {μ μ' : Nat → Option Pl} {w w' : World} {n : Nat} {σ : St} {a : Act}

theorem fresh_of {k : Nat → TS} {d : Nat} (h : match k d with | .fresh => True | _ => False) : k d = .fresh := by
  cases hk : k d with
  | fresh => rfl
  | dead => rw [hk] at h; exact h.elim
  | live tk => rw [hk] at h; exact h.elim

theorem EscK_run (h : StRep fr μ n σ a w) {o : Oper} {K : PV → (Nat → TS) → Fp → Prop} (hv : EscK P σ o.op K) :
    ∃ v k f μ' w', K v k f ∧ Inv fr k μ' w' ∧ Keeps w w' (Cold fr σ.k μ) (Cold fr k μ') μ μ' ∧
      ((∃ u, (execOp a.eval o).run P w = .ok (.value u) w' ∧ RepV w' (Cold fr k μ') μ' u v) ∨ ((execOp a.eval o).run P w = .ok .skip w' ∧ RepV w' (Cold fr k μ') μ' undef v)) := by
  obtain ⟨v, k, f, he, hK⟩ := hv
  obtain ⟨μ', w', h1⟩ := he.run σ (fun _ _ => rfl) (fun _ _ => rfl) fr μ n a w o rfl h
  rw [kmix_self he] at h1
  exact ⟨v, k, f, μ', w', hK, h1⟩
/-- An operation that makes or writes memory is sound. -/
theorem VE_run (h : StRep fr μ n σ a w) {d : Nat} {o : Oper} {K : PV → (Nat → TS) → Fp → Prop} (hv : VE P σ d o.op K) :
    ∃ v k f μ' w', K v k f ∧ Inv fr k μ' w' ∧ Keeps w w' (Cold fr σ.k μ) (Cold fr k μ') μ μ' ∧
      ((∃ u, (execOp a.eval o).run P w = .ok (.value u) w' ∧ RepV w' (Cold fr k μ') μ' u v) ∨ ((execOp a.eval o).run P w = .ok .skip w' ∧ RepV w' (Cold fr k μ') μ' undef v)) := by
  have hi := h.inv
  have esc : EscK P σ o.op K → _ := EscK_run h
  have ev : ∀ x : Operand, (σ.ev x).ok = true → RepV w (Cold fr σ.k μ) μ (a.eval x) (σ.ev x).strip := fun x hx => strip_rep (ev_rep h.slot x) hx
  obtain ⟨dst, op, ty, pos, after, guard⟩ := o
  have val : ∀ {m : Sem Value} {u : Value} {w' : World}, m.run P w = .ok u w' → (do pure (.value (← m)) : Sem Next).run P w = .ok (.value u) w' := by
    intro m u w' hm; simp only [Sem.run_bind, hm, Result.andThen]; rfl
  cases op with
  | alloc e =>
    simp only [VE] at hv
    obtain ⟨hf, hv⟩ := hv
    split at hv
    · rename_i xs hz
      obtain ⟨z, hx, hrun⟩ := run_alloc hz w
      obtain ⟨h1, h2, h3⟩ := new_zero hi hx (fresh_of hf) e
      exact ⟨_, _, _, _, _, hv, h1, h2, .inl ⟨_, val hrun, h3⟩⟩
    · exact hv.elim
  | box e x =>
    simp only [VE] at hv
    obtain ⟨hf, ho, hok, hv⟩ := hv
    obtain ⟨h1, h2, h3⟩ := new_box hi (ev x ho) hok (fresh_of hf) e
    exact ⟨_, _, _, _, _, hv, h1, h2, .inl ⟨_, val (run_box e _ w), h3⟩⟩
  | store t p x =>
    simp only [VE] at hv
    obtain ⟨hp, hx, hok, hv⟩ := hv
    split at hv
    · rename_i tn tk hs
      obtain ⟨w', hrun, h1, h2⟩ := run_stv hi (ev p hp) (ev x hx) hok hs
      refine ⟨_, _, _, _, _, hv, h1, h2, .inr ⟨?_, .und _⟩⟩
      simp only [execOp, Sem.run_bind, hrun, Result.andThen]; rfl
    · exact hv.elim
  | buildSlice t len ps =>
    simp only [VE] at hv
    obtain ⟨hf, ho, hv⟩ := hv
    split at hv
    · rename_i e sz es hb
      obtain ⟨u, w', μ', hrun, h1, h2, h3⟩ := run_bsl (P := P) hi (t := t) (len := len) (ps := ps.toList.map fun p => (p.1, (σ.ev p.2).strip)) (vs := ps.map fun (i, x) => (i, a.eval x)) (by simp [List.map_map, Function.comp_def]) (fun i p v hp hv' => by
        rw [List.getElem?_map] at hp
        rw [Array.toList_map, List.getElem?_map] at hv'
        cases hpi : ps.toList[i]? with
        | none => simp [hpi] at hp
        | some q =>
          simp only [hpi, Option.map_some] at hp hv'
          cases hp; cases hv'
          have hm := List.mem_of_getElem? hpi
          exact ev q.2 (List.all_eq_true.1 ho q hm)) hb (fresh_of hf)
      exact ⟨_, _, _, _, _, hv, h1, h2, .inl ⟨_, val hrun, h3⟩⟩
    · exact hv.elim
  | call c =>
    obtain ⟨cal, args, tys⟩ := c
    simp only [VE] at hv
    split at hv
    · rename_i s x t t' ha ht
      split at hv
      rotate_left
      · exact esc hv
      rename_i htt
      subst htt
      have hargs : args = #[s, x] := by apply Array.toList_inj.1; exact ha
      have htys : tys = #[t, t] := by apply Array.toList_inj.1; exact ht
      subst hargs
      subst htys
      split at hv
      · rename_i e sz by' es ys wr old hap
        obtain ⟨hf, hs, hx, hfit, hv⟩ := hv
        have A : ApdOk P σ.k t e sz by' (σ.ev s).strip es ys wr old ∧ srcs σ.k (σ.ev x).strip = some ys := by
          unfold apdC at hap
          split at hap
          · rename_i e' sz' hel
            split at hap
            · rename_i b z ys' hby hz hsr
              split at hap
              · rename_i hc
                obtain ⟨h1, h2, h3, h4⟩ := hc
                have hall : ∀ y ∈ ys', y.length = sz' := fun y hy => by have := List.all_eq_true.1 h4 y hy; simp only [Bool.and_eq_true, beq_iff_eq] at this; exact this.1
                have hone : ∀ y ∈ ys', ∀ c ∈ y, PV.one σ.k c = true := fun y hy c hc => by have := List.all_eq_true.1 h4 y hy; simp only [Bool.and_eq_true, beq_iff_eq] at this; exact List.all_eq_true.1 this.2 c hc
                split at hap
                · rename_i hsv
                  cases hap
                  exact ⟨⟨hel, h1, ⟨z, hz, h3⟩, hby, h2, hfit, hall, hone, .inl ⟨hsv, rfl, rfl, rfl⟩⟩, hsr⟩
                · rename_i tk sz2 lo m hsv
                  split at hap
                  · rename_i e2 sz3 es2 wr2 hk
                    split at hap
                    · rename_i hcc
                      obtain ⟨rfl, rfl, rfl, rfl, rfl⟩ := hcc
                      cases hap
                      exact ⟨⟨hel, h1, ⟨z, hz, h3⟩, hby, h2, hfit, hall, hone, .inr ⟨_, hsv, rfl, hk⟩⟩, hsr⟩
                    · cases hap
                  · cases hap
                · cases hap
              · cases hap
            · cases hap
          · cases hap
        obtain ⟨r, w', μ', hrun, h1, h2, h3⟩ := run_apd (ty := ty) hi A.1 (ev s hs) (ev x hx) A.2 (fresh_of hf)
        refine ⟨_, _, _, _, _, hv, h1, h2, .inl ⟨r, ?_, h3⟩⟩
        have he : (#[s, x] : Array Operand).map a.eval = #[a.eval s, a.eval x] := by simp
        simp only [execOp, resolve, invoke, builtin, Sem.run_bind, Sem.run_pure, Result.andThen, he, hrun]
      · exact esc hv.k
    · exact esc hv
  | _ => exact esc hv
end

end Go.V
/- The value logic, part 13: code. Nothing is assumed. -/
set_option linter.unusedVariables false
set_option linter.unusedSimpArgs false
namespace Go.V
open Go.RowKit (Below)

section
variable {P : Program} {fr : Fr} {μ μ' : Nat → Option Pl} {w w' : World} {n : Nat} {σ : St} {a : Act}

theorem run_callFunc {f : FuncId} (h : fnOk P f = true) (args : Array Value) (w : World) : (callFunc f args).run P w = .ok (.enter f args) w := by
  unfold fnOk at h
  split at h
  · rename_i fn hf
    simp only [Bool.and_eq_true, Bool.not_eq_true'] at h
    have h1 : ¬ (fn.name = "runtime.NumGoroutine") := by simpa using h.2
    have h2 : ¬ (fn.body = none) := by intro e; rw [e] at h; simp at h
    simp [callFunc, hf, h1, h2]
  · cases h
theorem callOf_run (h : StRep fr μ n σ a w) {o : Oper} {c : Call} (ho : o.op = .call c) {f : FuncId} {xs : List PV} (hc : callOf σ c = some (f, xs)) (hok : (c.operands.toList.all fun x => (σ.ev x).ok) = true) (hf : fnOk P f = true) :
    ∃ vs : Array Value, (execOp a.eval o).run P w = .ok (.enter f vs) w ∧ vs.size = xs.length ∧ ∀ (i : Nat) (v : Value) (x : PV), vs[i]? = some v → xs[i]? = some x → RepV w (Cold fr σ.k μ) μ v x := by
  have ev : ∀ x : Operand, (σ.ev x).ok = true → RepV w (Cold fr σ.k μ) μ (a.eval x) (σ.ev x).strip := fun x hx => strip_rep (ev_rep h.slot x) hx
  obtain ⟨cal, args, tys⟩ := c
  unfold callOf at hc
  split at hc
  · rename_i fo hcal
    simp only at hcal
    subst hcal
    simp only [Call.operands, Array.toList_append, List.all_append, Bool.and_eq_true, List.all_cons, List.all_nil, Bool.and_true] at hok
    split at hc
    · rename_i f' caps hs
      cases hc
      have hfn := ev fo (by simpa using hok.1)
      rw [hs] at hfn
      obtain ⟨cs, hfe, hl, hr⟩ := hfn.fn_inv
      refine ⟨args.map a.eval ++ cs, ?_, by simp [hl], fun i v x hv hx => ?_⟩
      · simp only [execOp, ho, resolve, Sem.run_bind, hfe, Deferred.ofValue, Sem.run_pure, Result.andThen, invoke]
        have : (#[] : Array Value) ++ args.map a.eval = args.map a.eval := by simp
        rw [this]
        exact run_callFunc hf _ w
      · by_cases hi : i < args.size
        · rw [Array.getElem?_append_left (by simpa using hi), Array.getElem?_map] at hv
          rw [List.getElem?_append_left (by simpa using hi), List.getElem?_map] at hx
          have hai : args[i]? = some args[i] := Array.getElem?_eq_getElem hi
          have hai' : args.toList[i]? = some args[i] := by simpa using hai
          rw [hai] at hv
          rw [hai'] at hx
          cases hv; cases hx
          exact ev _ (List.all_eq_true.1 hok.2 _ (by simp))
        · rw [Array.getElem?_append_right (by simpa using hi)] at hv
          rw [List.getElem?_append_right (by simpa using hi)] at hx
          exact hr _ v x (by simpa using hv) (by simpa using hx)
    · cases hc
  · cases hc

theorem mk_rep {C : Addr → Prop} {g : Bool} {v : Value} {x : PV} (hg : g = true) (h : RepV w C μ v x) : RepV w C μ v (.mk g x) := by subst hg; exact h
theorem und_mk {C : Addr → Prop} {g : Bool} {x : PV} (hg : g = false) : RepV w C μ undef (.mk g x) := by subst hg; exact .und _

/-- A call is sound. -/
theorem VC_run (h : StRep fr μ n σ a w) {o : Oper} {c : Call} (ho : o.op = .call c) (hd : dstOk n o.dst = true) {g : Bool} (hg : g = true) {K : PV → (Nat → TS) → Fp → Prop} (hv : VC P σ g c K) {next : Act → World → Prop} {Q : Exit → Act → World → Prop}
    (hn : ∀ v k f μ' a' w', K v k f → StRep fr μ' n (St.put ⟨σ.g, k⟩ o.dst v) a' w' → next a' w') : o.wp P a w next Q := by
  have hd' : ∀ i, o.dst = some i → i < n := fun i hi => by rw [hi] at hd; simpa [dstOk] using hd
  unfold VC at hv
  split at hv
  · rename_i f xs hc
    rcases hv with hv | hv | hv
    case inr.inr =>
      obtain ⟨v, k, f, μ', w', hK, hi', K', hres⟩ := EscK_run (o := o) h (by rw [ho]; exact hv.k)
      have hst := h.step hi' K'
      unfold Oper.wp
      rcases hres with ⟨u, hu, hr⟩ | ⟨hu, hr⟩
      · rw [hu, Oper.upon_value]; exact hn _ _ _ _ _ _ hK (hst.put hd' hr)
      · rw [hu, Oper.upon_skip]; exact hn _ _ _ _ _ _ hK (hst.put hd' hr)
    case inr.inl =>
      obtain ⟨M, D, as, r, K1, ⟨_, hok, hargs, hM, hj, hw, hD, hfr, hvx⟩, hv⟩ := hv
      obtain ⟨vs, hrun, hl, hrep⟩ := callOf_run h ho hc hok hvx.1
      unfold Oper.wp
      rw [hrun, Oper.upon_enter]
      refine (call_vx h.inv hl hrep hargs hM hj hw hD hvx).mono ?_
      rintro e w' ⟨v, μ', rfl, hin, hr⟩
      simp only
      have hf1 : ∀ t tk, mkK K1 t = .live tk → σ.k t = .fresh := by
        intro t tk ht
        have : ∀ l : List (Nat × Tok), mkK l t = .live tk → ∃ p ∈ l, p.1 = t := by
          intro l
          induction l with
          | nil => intro h; cases h
          | cons p l ih =>
            intro h
            obtain ⟨x, y⟩ := p
            simp only [mkK] at h
            split at h
            · rename_i e; exact ⟨_, List.mem_cons_self, e.symm⟩
            · obtain ⟨p, hp, e⟩ := ih h; exact ⟨p, List.mem_cons_of_mem _ hp, e⟩
        obtain ⟨p, hp, e⟩ := this K1 ht
        exact e ▸ hfr p hp
      obtain ⟨h1, h2, h3⟩ := vx_out h.inv hM hw hf1 hin
      exact hn _ _ _ _ _ _ hv ((h.step h1 h2).put hd' (h3 v r hr))
    obtain ⟨r, hr, hv⟩ := hv
    obtain ⟨hok, hvf⟩ := hr hg
    obtain ⟨vs, hrun, hl, hrep⟩ := callOf_run h ho hc hok hvf.1
    unfold Oper.wp
    rw [hrun, Oper.upon_enter]
    refine (call_vf h.inv hl hrep hvf).mono ?_
    rintro e w' ⟨v, rfl, hb, hr0⟩
    simp only
    split at hv
    · rename_i hflat
      have hr1 : Rep0 w' (Cold fr σ.k μ) v r := by
        simp only [Bool.or_eq_true] at hflat
        rcases hflat with hf | he
        · exact flat_rep hr0 hf
        · have he' : xs.flatMap (deS 4 σ.k) = [] := by simpa using he
          rw [he'] at hr0
          exact call_res0 h.inv hb hr0
      exact hn _ _ _ _ _ _ hv ((h.below hb).put hd' (mk_rep hg (.base _ _ hr1)))
    · obtain ⟨_, hv⟩ := hv
      have hb' := h.below hb
      have hst := hb'.less (frz_less (xs.flatMap (deS 4 σ.k)) σ.k)
      have hr1 := call_res h.inv hb hr0
      exact hn _ _ _ _ _ _ hv (hst.put hd' (.base _ _ hr1))
  · exact hv.elim

theorem VO_run {ops : Array Oper} {ds : List (Option Tmp)} (hds : ∀ j t, gslot ds j = some t → (ops[j]?).bind (·.dst) = some t) (h : StRep fr μ n σ a w) {d : Nat} {o : Oper} {K : St → Fp → Prop} (hv : VO P n ds d o σ K)
    {next : Act → World → Prop} {Q : Exit → Act → World → Prop} (hn : ∀ σ' f μ' a' w', K σ' f → StRep fr μ' n σ' a' w' → next a' w') :
    if Region.wanted o (yielded ops a.tmps) = true then o.wp P a w next Q else next (a.put o.dst undef) w := by
  obtain ⟨hd, hv⟩ := hv
  have hd' : ∀ i, o.dst = some i → i < n := fun i hi => by rw [hi] at hd; simpa [dstOk] using hd
  have pure_ok : ∀ {v : PV} {g : Bool} {f : Fp}, g = true → vop P σ o.op = some v → vgood σ o.op = true → K (σ.put o.dst (.mk g v)) f → o.wp P a w next Q := by
    intro v g f hg hvo hgo hK
    obtain ⟨u, hu, hr⟩ := vop_run h hvo hgo
    unfold Oper.wp
    rw [hu, Oper.upon_value]
    exact hn _ _ _ _ _ hK (h.put hd' (mk_rep hg hr))
  have eff_ok : ∀ {Kv : PV → (Nat → TS) → Fp → Prop}, VE P σ d o.op Kv → (∀ v k f, Kv v k f → ∃ f', K (St.put ⟨σ.g, k⟩ o.dst v) f') → o.wp P a w next Q := by
    intro Kv hve hK
    obtain ⟨v, k, f, μ', w', hKv, hi', K', hres⟩ := VE_run h hve
    obtain ⟨f', hK'⟩ := hK v k f hKv
    have hst := h.step hi' K'
    unfold Oper.wp
    rcases hres with ⟨u, hu, hr⟩ | ⟨hu, hr⟩
    · rw [hu, Oper.upon_value]; exact hn _ _ _ _ _ hK' (hst.put hd' hr)
    · rw [hu, Oper.upon_skip]; exact hn _ _ _ _ _ hK' (hst.put hd' hr)
  have opk_call : ∀ {c : Call}, opK o.op = .call c → o.op = .call c := by
    intro c hc
    unfold opK at hc
    split at hc <;> try cases hc
    rename_i c' hop
    split at hc <;> cases hc
    exact hop
  cases hguard : o.guard with
  | none =>
    rw [hguard] at hv
    have hw : Region.wanted o (yielded ops a.tmps) = true := by simp [Region.wanted, hguard]
    rw [if_pos hw]
    simp only at hv
    split at hv
    · obtain ⟨hgo, hv⟩ := hv
      split at hv
      · rename_i v hvo
        exact pure_ok (g := true) rfl hvo hgo hv
      · exact hv.elim
    · rename_i c hc
      exact VC_run h (opk_call hc) hd rfl hv (fun v k f μ' a' w' hK hst => hn _ _ _ _ _ hK hst)
    · exact eff_ok hv (fun v k f hK => ⟨f, hK⟩)
  | some gj =>
    obtain ⟨j, want⟩ := gj
    rw [hguard] at hv
    simp only at hv
    split at hv
    · rename_i t hgs
      obtain ⟨hisb, hv⟩ := hv
      have hslot := h.slot t
      have hy : Region.wanted o (yielded ops a.tmps) = gb want (σ.g t) := by
        have hb := hds j t hgs
        simp only [Region.wanted, hguard, yielded, hb, Option.bind_some]
        cases hgt : σ.g t with
        | bool b =>
          rw [hgt] at hslot
          have hv := hslot.bool_inv
          have htlt : t < a.tmps.size := by
            rcases Nat.lt_or_ge t a.tmps.size with h1 | h1
            · exact h1
            · rw [Array.getD_eq_getD_getElem?, Array.getElem?_eq_none h1] at hv
              simp [undef] at hv
          have : a.tmps[t]? = some (.bool b) := by
            rw [Array.getD_eq_getD_getElem?, Array.getElem?_eq_getElem htlt] at hv
            rw [Array.getElem?_eq_getElem htlt]
            simpa using hv
          rw [this]
          cases b <;> cases want <;> rfl
        | und x =>
          rw [hgt] at hslot
          have hv := hslot.und_inv
          have : a.tmps[t]? = none ∨ a.tmps[t]? = some undef := by
            cases hh : a.tmps[t]? with
            | none => exact .inl rfl
            | some v =>
              rw [Array.getD_eq_getD_getElem?, hh] at hv
              exact .inr (by simpa using hv)
          rcases this with h1 | h1 <;> rw [h1] <;> simp [undef, gb]
        | _ => rw [hgt] at hisb; cases hisb
      rw [hy]
      have skip_ok : ∀ {f : Fp} {x : PV}, K (σ.put o.dst (.und x)) f → next (a.put o.dst undef) w := fun hK => hn _ _ _ _ _ hK (h.put hd' (.und _))
      split at hv
      · obtain ⟨hgo, hv⟩ := hv
        split at hv
        · rename_i v hvo
          by_cases hg : gb want (σ.g t) = true
          · rw [if_pos hg]; exact pure_ok hg hvo (hgo hg) hv
          · have hg' : gb want (σ.g t) = false := by simpa using hg
            rw [if_neg hg]
            rw [hg'] at hv
            exact skip_ok hv
        · obtain ⟨hg', hv⟩ := hv
          rw [if_neg (by rw [hg']; simp)]
          exact skip_ok hv
      · rename_i c hc
        by_cases hg : gb want (σ.g t) = true
        · rw [if_pos hg]
          exact VC_run h (opk_call hc) hd hg hv (fun v k f μ' a' w' hK hst => hn _ _ _ _ _ hK hst)
        · have hg' : gb want (σ.g t) = false := by simpa using hg
          rw [if_neg hg]
          unfold VC at hv
          split at hv
          · rcases hv with ⟨r, _, hv⟩ | ⟨_, _, _, _, _, ⟨hgt, _⟩, _⟩ | ⟨hgt, _⟩
            · rw [hg'] at hv
              split at hv
              · exact skip_ok hv
              · exact absurd hv.1 (by simp)
            · rw [hg'] at hgt; cases hgt
            · rw [hg'] at hgt; cases hgt
          · exact hv.elim
      · by_cases hg : gb want (σ.g t) = true
        · rw [if_pos hg]; exact eff_ok (hv.1 hg) (fun v k f hK => ⟨_, hK⟩)
        · rw [if_neg hg]; exact skip_ok (hv.2 (by simpa using hg))
    · exact hv.elim

theorem VL_run {ops : Array Oper} {ds : List (Option Tmp)} (hds : ∀ j t, gslot ds j = some t → (ops[j]?).bind (·.dst) = some t) {Q : Exit → Act → World → Prop} : ∀ (l : List Oper) (nb : Nat) {μ : Nat → Option Pl} {w : World} {σ : St} {a : Act} {L : List Fp} {K : St → List Fp → Prop},
    StRep fr μ n σ a w → VL P n ds nb l σ L K → (∀ σ' L' μ' a' w', K σ' L' → StRep fr μ' n σ' a' w' → Q .normal a' w') → wpList P ops Q l a w
  | [], nb, μ, w, σ, a, L, K, h, hv, hn => hn _ _ _ _ _ hv h
  | o :: r, nb, μ, w, σ, a, L, K, h, hv, hn => by
    have := VO_run (Q := Q) (next := wpList P ops Q r) hds h hv (fun σ' f μ' a' w' hK hst => VL_run hds r (nb + 1) hst hK hn)
    unfold wpList
    split
    · rename_i hw; rw [if_pos hw] at this; exact .inl this
    · rename_i hw; rw [if_neg hw] at this; exact this
end

/-! ### More is told -/
theorem EscK_mono {P : Program} {σ : St} {o : Op} {K K' : PV → (Nat → TS) → Fp → Prop} (hK : ∀ v k f, K v k f → K' v k f) (h : EscK P σ o K) : EscK P σ o K' :=
  let ⟨v, k, f, h1, h2⟩ := h; ⟨v, k, f, h1, hK _ _ _ h2⟩
theorem EscA_mono {P : Program} {σ : St} {s : Operand} {o : Op} {K K' : PV → (Nat → TS) → Fp → Prop} (hK : ∀ v k f, K v k f → K' v k f) (h : EscA P σ s o K) : EscA P σ s o K' := by
  unfold EscA at h ⊢
  split at h
  · obtain ⟨h0, v, k, f, h1, h2, h3⟩ := h; exact ⟨h0, v, k, f, h1, h2, hK _ _ _ h3⟩
  · exact h
theorem VE_mono {P : Program} {σ : St} {d : Nat} {o : Op} {K K' : PV → (Nat → TS) → Fp → Prop} (hK : ∀ v k f, K v k f → K' v k f) (h : VE P σ d o K) : VE P σ d o K' := by
  unfold VE at h ⊢
  split at h
  · refine ⟨h.1, ?_⟩
    have h2 := h.2
    split at h2
    · exact hK _ _ _ h2
    · exact h2
  · exact ⟨h.1, h.2.1, h.2.2.1, hK _ _ _ h.2.2.2⟩
  · refine ⟨h.1, h.2.1, h.2.2.1, ?_⟩
    have h2 := h.2.2.2
    split at h2
    · exact hK _ _ _ h2
    · exact h2
  · refine ⟨h.1, h.2.1, ?_⟩
    have h2 := h.2.2
    split at h2
    · exact hK _ _ _ h2
    · exact h2
  · split at h
    · split at h
      · rename_i ht
        simp only [if_pos ht]
        split at h
        · exact ⟨h.1, h.2.1, h.2.2.1, h.2.2.2.1, hK _ _ _ h.2.2.2.2⟩
        · exact EscA_mono hK h
      · rename_i ht
        simp only [if_neg ht]
        exact EscK_mono hK h
    · exact EscK_mono hK h
  · exact EscK_mono hK h
theorem VC_mono {P : Program} {σ : St} {g : Bool} {c : Call} {K K' : PV → (Nat → TS) → Fp → Prop} (hK : ∀ v k f, K v k f → K' v k f) (h : VC P σ g c K) : VC P σ g c K' := by
  unfold VC at h ⊢
  split at h
  · rcases h with ⟨r, h1, h2⟩ | ⟨M, D, as, r, K1, h1, h2⟩ | h
    · refine .inl ⟨r, h1, ?_⟩
      split at h2
      · rename_i hc; rw [if_pos hc]; exact hK _ _ _ h2
      · rename_i hc; rw [if_neg hc]; exact ⟨h2.1, hK _ _ _ h2.2⟩
    · exact .inr (.inl ⟨M, D, as, r, K1, h1, hK _ _ _ h2⟩)
    · obtain ⟨h0, h00, v, k, f, h1, h2, h3⟩ := h; exact .inr (.inr ⟨h0, h00, v, k, f, h1, h2, hK _ _ _ h3⟩)
  · exact h
theorem VO_mono {P : Program} {n : Nat} {ds : List (Option Tmp)} {d : Nat} {o : Oper} {σ : St} {K K' : St → Fp → Prop} (hK : ∀ σ f, K σ f → K' σ f) (h : VO P n ds d o σ K) : VO P n ds d o σ K' := by
  unfold VO at h ⊢
  refine ⟨h.1, ?_⟩
  have h2 := h.2
  split at h2
  · split at h2
    · refine ⟨h2.1, ?_⟩
      have h3 := h2.2
      split at h3
      · exact hK _ _ h3
      · exact h3
    · exact VC_mono (fun v k f => hK _ _) h2
    · exact VE_mono (fun v k f => hK _ _) h2
  · split at h2
    · refine ⟨h2.1, ?_⟩
      have h3 := h2.2
      split at h3
      · refine ⟨h3.1, ?_⟩
        have h4 := h3.2
        split at h4
        · exact hK _ _ h4
        · exact ⟨h4.1, hK _ _ h4.2⟩
      · exact VC_mono (fun v k f => hK _ _) h3
      · exact ⟨fun hg => VE_mono (fun v k f => hK _ _) (h3.1 hg), fun hg => hK _ _ (h3.2 hg)⟩
    · exact h2
theorem VL_mono {P : Program} {n : Nat} {ds : List (Option Tmp)} : ∀ (l : List Oper) (nb : Nat) {σ : St} {L : List Fp} {K K' : St → List Fp → Prop}, (∀ σ L, K σ L → K' σ L) → VL P n ds nb l σ L K → VL P n ds nb l σ L K'
  | [], _, _, _, _, _, hK, h => hK _ _ h
  | o :: r, nb, _, _, _, _, hK, h => VO_mono (fun σ' f => VL_mono r (nb + 1) hK) h
/-! ### Code -/
/-- Less is told. -/
def Le (n : Nat) (σ τ : St) : Prop := ∀ fr μ a w, StRep fr μ n σ a w → ∃ μ', StRep fr μ' n τ a w
theorem Le.refl (n : Nat) (σ : St) : Le n σ σ := fun fr μ a w h => ⟨μ, h⟩
theorem Le.trans {n : Nat} {σ τ ρ : St} (h : Le n σ τ) (g : Le n τ ρ) : Le n σ ρ := fun fr μ a w hs => let ⟨_, h1⟩ := h fr μ a w hs; g fr _ a w h1


end Go.V
/- The value logic, part 16: what an operation reads and writes. Nothing is assumed. -/
set_option linter.unusedVariables false
set_option linter.unusedSimpArgs false
namespace Go.V
open Go.RowKit (Below)

section
variable {P : Program} {k k' : Nat → TS}
def Agree (k k' : Nat → TS) (D : List Nat) : Prop := ∀ t ∈ D, k t = k' t
theorem Agree.sub {D D' : List Nat} (h : Agree k k' D) (hs : ∀ t ∈ D', t ∈ D) : Agree k k' D' := fun t ht => h t (hs t ht)
theorem view_cg {x : PV} (h : Agree k k' x.nm1) : view k x = view k' x := by
  cases x <;> simp only [view] <;> try rfl
  · rename_i t off; rw [h t (by simp [PV.nm1])]
  · rename_i t sz i off; rw [h t (by simp [PV.nm1])]
theorem ld_cg {t : TypeId} {x : PV} (h : Agree k k' x.nm1) : ld P k t x = ld P k' t x := by simp only [ld, view_cg h]
theorem isLive_cg {t : Nat} (h : k t = k' t) : isLive k t = isLive k' t := by simp only [isLive, h]
theorem ptLive_cg {x : PV} (h : Agree k k' x.nm1) : ptLive k x = ptLive k' x := by
  cases x <;> simp only [ptLive] <;> try rfl
  · rename_i t off; exact isLive_cg (h t (by simp [PV.nm1]))
  · rename_i t sz i off; exact isLive_cg (h t (by simp [PV.nm1]))
theorem refLive_cg {x : PV} (h : Agree k k' x.nm1) : refLive k x = refLive k' x := by
  cases x <;> simp only [refLive] <;> try rfl
  rename_i t sz lo n; exact isLive_cg (h t (by simp [PV.nm1]))
theorem one_cg {x : PV} (h : Agree k k' x.nm1) : PV.one k x = PV.one k' x := by
  cases x with
  | ref t sz lo n => exact isLive_cg (h t (by simp [PV.nm1]))
  | ptr t off => exact isLive_cg (h t (by simp [PV.nm1]))
  | ep t sz i off => exact isLive_cg (h t (by simp [PV.nm1]))
  | mp t => exact isLive_cg (h t (by simp [PV.nm1]))
  | _ => rfl
theorem all_cg {α : Type} {l : List α} {f g : α → Bool} (h : ∀ x ∈ l, f x = g x) : l.all f = l.all g := by
  induction l with
  | nil => rfl
  | cons x l ih => simp only [List.all_cons, h x List.mem_cons_self, ih (fun y hy => h y (List.mem_cons_of_mem _ hy))]
theorem oks_cg {x : PV} (h : Agree k k' x.nm) : PV.oks k x = PV.oks k' x := by
  cases x with
  | agg xs => simp only [PV.oks]; exact all_cg (fun y hy => one_cg (h.sub fun t ht => List.mem_flatMap.2 ⟨y, hy, ht⟩))
  | fn f xs => rfl
  | tup xs => rfl
  | ref t sz lo n => exact isLive_cg (h t (by simp [PV.nm, PV.nm1]))
  | ptr t off => exact isLive_cg (h t (by simp [PV.nm, PV.nm1]))
  | ep t sz i off => exact isLive_cg (h t (by simp [PV.nm, PV.nm1]))
  | mp t => exact isLive_cg (h t (by simp [PV.nm, PV.nm1]))
  | _ => rfl
theorem srcs_cg {x : PV} (h : Agree k k' x.nm1) : srcs k x = srcs k' x := by
  cases x <;> simp only [srcs] <;> try rfl
  rename_i t sz lo n; rw [h t (by simp [PV.nm1])]
theorem vlen_cg {t : TypeId} {x : PV} (h : Agree k k' x.nm1) : vlen P k t x = vlen P k' t x := by
  cases x <;> simp only [vlen] <;> try rfl
  rename_i tk sz lo n; rw [isLive_cg (h tk (by simp [PV.nm1]))]
theorem map_cg {α β : Type} {l : List α} {f g : α → β} (h : ∀ x ∈ l, f x = g x) : l.map f = l.map g := List.map_congr_left h
theorem flatMap_cg {α β : Type} {l : List α} {f g : α → List β} (h : ∀ x ∈ l, f x = g x) : l.flatMap f = l.flatMap g := by
  induction l with
  | nil => rfl
  | cons x l ih => simp only [List.flatMap_cons, h x List.mem_cons_self, ih (fun y hy => h y (List.mem_cons_of_mem _ hy))]
theorem ro_cg : ∀ (d : Nat) (x : PV), Agree k k' (deS d k x) → roS d k x = roS d k' x ∧ deS d k x = deS d k' x := by
  intro d
  induction d with
  | zero => intro x _; cases x <;> exact ⟨rfl, rfl⟩
  | succ d ih =>
    intro x h
    have many : ∀ xs : List PV, Agree k k' (xs.flatMap (deS d k)) → xs.map (roS d k) = xs.map (roS d k') ∧ xs.flatMap (deS d k) = xs.flatMap (deS d k') := by
      intro xs hx
      have h1 : ∀ y ∈ xs, roS d k y = roS d k' y ∧ deS d k y = deS d k' y := fun y hy => ih y (hx.sub fun t ht => List.mem_flatMap.2 ⟨y, hy, ht⟩)
      exact ⟨map_cg fun y hy => (h1 y hy).1, flatMap_cg fun y hy => (h1 y hy).2⟩
    cases x with
    | ref t sz lo n =>
      have ht : k t = k' t := h t (by simp [deS])
      have hs : srcs k (.ref t sz lo n) = srcs k' (.ref t sz lo n) := srcs_cg (fun t' ht' => by simp [PV.nm1] at ht'; subst ht'; exact ht)
      cases he : srcs k (.ref t sz lo n) with
      | none => rw [he] at hs; simp only [roS, deS, he, ← hs]; exact ⟨trivial, trivial⟩
      | some es =>
        have hs' : srcs k' (.ref t sz lo n) = some es := by rw [← hs, he]
        have hes : ∀ e ∈ es, e.map (roS d k) = e.map (roS d k') ∧ e.flatMap (deS d k) = e.flatMap (deS d k') := fun e hm => many e (h.sub fun t' ht' => by simp only [deS, he, List.mem_cons]; exact .inr (List.mem_flatMap.2 ⟨e, hm, ht'⟩))
        simp only [roS, deS, he, hs']
        exact ⟨by rw [map_cg fun e hm => (hes e hm).1], by rw [flatMap_cg fun e hm => (hes e hm).2]⟩
    | ptr t off =>
      have ht : k t = k' t := h t (by simp [deS])
      cases hk : k t with
      | live tk => cases tk with
        | box xs wr =>
          have hk' : k' t = .live (.box xs wr) := by rw [← ht, hk]
          obtain ⟨h1, h2⟩ := many xs (h.sub fun t' ht' => by simp only [deS, hk, List.mem_cons]; exact .inr ht')
          simp only [roS, deS, hk, hk', h1, h2]; exact ⟨trivial, trivial⟩
        | row e sz es wr => have hk' := ht.symm.trans hk; simp only [roS, deS, hk, hk']; exact ⟨trivial, trivial⟩
        | map m => have hk' := ht.symm.trans hk; simp only [roS, deS, hk, hk']; exact ⟨trivial, trivial⟩
        | arr e sz es => have hk' := ht.symm.trans hk; simp only [roS, deS, hk, hk']; exact ⟨trivial, trivial⟩
      | fresh => have hk' := ht.symm.trans hk; simp only [roS, deS, hk, hk']; exact ⟨trivial, trivial⟩
      | dead => have hk' := ht.symm.trans hk; simp only [roS, deS, hk, hk']; exact ⟨trivial, trivial⟩
    | ep t sz i off =>
      have ht : k t = k' t := h t (by simp [deS])
      have hs : view k (.ep t sz i off) = view k' (.ep t sz i off) := view_cg (fun t' ht' => by simp [PV.nm1] at ht'; subst ht'; exact ht)
      cases he : view k (.ep t sz i off) with
      | none => rw [he] at hs; simp only [roS, deS, he, ← hs]; exact ⟨trivial, trivial⟩
      | some q =>
        obtain ⟨xs, o⟩ := q
        have hs' : view k' (.ep t sz i off) = some (xs, o) := by rw [← hs, he]
        obtain ⟨h1, h2⟩ := many xs (h.sub fun t' ht' => by simp only [deS, he, List.mem_cons]; exact .inr ht')
        simp only [roS, deS, he, hs', h1, h2]; exact ⟨trivial, trivial⟩
    | fn f xs => obtain ⟨h1, h2⟩ := many xs h; simp only [roS, deS, h1, h2]; exact ⟨trivial, trivial⟩
    | agg xs => obtain ⟨h1, h2⟩ := many xs h; simp only [roS, deS, h1, h2]; exact ⟨trivial, trivial⟩
    | tup xs => obtain ⟨h1, h2⟩ := many xs h; simp only [roS, deS, h1, h2]; exact ⟨trivial, trivial⟩
    | _ => exact ⟨rfl, rfl⟩
end

/-! ### Where operations look -/
section
variable {P : Program} {σ τ : St} {n : Nat}
theorem ev_cg {x : Operand} (h : ∀ s ∈ slotOf x, τ.g s = σ.g s) : τ.ev x = σ.ev x := by
  cases x <;> simp only [St.ev] <;> exact h _ (by simp [slotOf])
theorem vop_cg {op : Op} (hs : ∀ s ∈ op.operands.toList.flatMap slotOf, τ.g s = σ.g s) (hk : Agree τ.k σ.k (vopNm σ op)) : vop P τ op = vop P σ op := by
  have e1 : ∀ x ∈ op.operands.toList, τ.ev x = σ.ev x := fun x hx => ev_cg (fun s hs' => hs s (List.mem_flatMap.2 ⟨x, hx, hs'⟩))
  cases op with
  | move x => simp only [vop, e1 x (by simp [Op.operands])]
  | assign x => simp only [vop, e1 x (by simp [Op.operands])]
  | pick c x y => simp only [vop, e1 c (by simp [Op.operands]), e1 x (by simp [Op.operands]), e1 y (by simp [Op.operands])]
  | binOp o t x y t' => simp only [vop, e1 x (by simp [Op.operands]), e1 y (by simp [Op.operands])]
  | unOp o t x => simp only [vop, e1 x (by simp [Op.operands])]
  | convert s t x => simp only [vop, e1 x (by simp [Op.operands])]
  | extract x i => simp only [vop, e1 x (by simp [Op.operands])]
  | index t x i => simp only [vop, e1 x (by simp [Op.operands]), e1 i (by simp [Op.operands])]
  | fieldAddr s x f => simp only [vop, e1 x (by simp [Op.operands]), ptLive_cg hk]
  | indexAddr t x i => simp only [vop, e1 x (by simp [Op.operands]), e1 i (by simp [Op.operands]), refLive_cg hk]
  | load t x => simp only [vop, e1 x (by simp [Op.operands]), ld_cg hk]
  | slice t x lo hi mx =>
    cases mx with
    | some m => simp only [vop]
    | none =>
      have hlo : (lo.map fun y => (τ.ev y).strip) = lo.map fun y => (σ.ev y).strip := by
        cases lo with | none => rfl | some y => simp only [Option.map_some, e1 y (by simp [Op.operands])]
      have hhi : (hi.map fun y => (τ.ev y).strip) = hi.map fun y => (σ.ev y).strip := by
        cases hi with | none => rfl | some y => simp only [Option.map_some, e1 y (by simp [Op.operands])]
      simp only [vop, e1 x (by simp [Op.operands]), hlo, hhi]
      cases hx : (σ.ev x).strip with
      | ref tk sz l0 m =>
        have hk' : Agree τ.k σ.k (PV.ref tk sz l0 m).nm1 := by simp only [vopNm, hx] at hk; exact hk
        have h1 := refLive_cg (k := τ.k) (k' := σ.k) (x := .ref tk sz l0 m) hk'
        have h2 : arrOf τ.k (.ref tk sz l0 m) = arrOf σ.k (.ref tk sz l0 m) := by simp only [arrOf, hk' tk (by simp [PV.nm1])]
        simp only [slK, h1, h2]
      | _ => rfl
  | build t ps =>
    have hp : ∀ p ∈ ps.toList, τ.ev p.2 = σ.ev p.2 := fun p hp => e1 p.2 (by simp only [Op.operands]; simpa using ⟨p.1, by simpa using hp⟩)
    simp only [vop]
    rw [all_cg (g := fun p => ((σ.ev p.2).strip).oks σ.k) (fun p hp' => by rw [hp p hp']; exact oks_cg (hk.sub fun t ht => List.mem_flatMap.2 ⟨p, hp', ht⟩))]
    rw [map_cg (g := fun p => (p.1, (σ.ev p.2).strip)) (fun p hp' => by rw [hp p hp'])]
  | makeFunc f first cs =>
    simp only [vop]
    split
    · rw [map_cg (g := fun x => (σ.ev x).strip) (fun x hx => by rw [e1 x (by simp only [Op.operands, Array.toList_append]; exact List.mem_append_right _ hx)])]
    · rfl
  | call c =>
    simp only [vop]
    split
    · rename_i x t hcal ha ht
      have hx : x ∈ c.args.toList := by rw [ha]; exact List.mem_cons_self
      rw [e1 x (by simp only [Op.operands, Call.operands, Array.toList_append]; exact List.mem_append_right _ hx)]
      exact vlen_cg (hk.sub fun t' ht' => List.mem_flatMap.2 ⟨x, hx, ht'⟩)
    · rfl
  | _ => simp only [vop]
theorem vgood_cg {op : Op} (hs : ∀ s ∈ op.operands.toList.flatMap slotOf, τ.g s = σ.g s) : vgood τ op = vgood σ op := by
  have e1 : ∀ x ∈ op.operands.toList, τ.ev x = σ.ev x := fun x hx => ev_cg (fun s hs' => hs s (List.mem_flatMap.2 ⟨x, hx, hs'⟩))
  cases op with
  | pick c x y => simp only [vgood, e1 c (by simp [Op.operands]), e1 x (by simp [Op.operands]), e1 y (by simp [Op.operands])]
  | _ => simp only [vgood]; exact all_cg (fun x hx => by rw [e1 x hx])
theorem vopNm_cg {op : Op} (hs : ∀ s ∈ op.operands.toList.flatMap slotOf, τ.g s = σ.g s) : vopNm τ op = vopNm σ op := by
  have e1 : ∀ x ∈ op.operands.toList, τ.ev x = σ.ev x := fun x hx => ev_cg (fun s hs' => hs s (List.mem_flatMap.2 ⟨x, hx, hs'⟩))
  cases op with
  | load t x => simp only [vopNm, e1 x (by simp [Op.operands])]
  | fieldAddr t x f => simp only [vopNm, e1 x (by simp [Op.operands])]
  | indexAddr t x i => simp only [vopNm, e1 x (by simp [Op.operands])]
  | slice t x lo hi mx => simp only [vopNm, e1 x (by simp [Op.operands])]
  | build t ps => simp only [vopNm]; exact flatMap_cg (fun p hp => by rw [e1 p.2 (by simp only [Op.operands]; simpa using ⟨p.1, by simpa using hp⟩)])
  | call c => simp only [vopNm]; exact flatMap_cg (fun x hx => by rw [e1 x (by simp only [Op.operands, Call.operands, Array.toList_append]; exact List.mem_append_right _ hx)])
  | _ => simp only [vopNm]
end

end Go.V
/- The value logic, part 17: operations are local. Nothing is assumed. -/
set_option linter.unusedVariables false
set_option linter.unusedSimpArgs false
namespace Go.V
open Go.RowKit (Below)

section
variable {P : Program} {σ τ : St} {n : Nat}
abbrev is3 (v : PV) (k : Nat → TS) (f : Fp) : PV → (Nat → TS) → Fp → Prop := fun v' k' f' => v' = v ∧ k' = k ∧ f' = f
abbrev is2 (s : St) (f : Fp) : St → Fp → Prop := fun s' f' => s' = s ∧ f' = f

theorem VE_elim {d : Nat} {op : Op} {K : PV → (Nat → TS) → Fp → Prop} (h : VE P σ d op K) : ∃ v k f, VE P σ d op (is3 v k f) ∧ K v k f := by
  cases op with
  | alloc e =>
    simp only [VE] at h ⊢
    obtain ⟨h1, h2⟩ := h
    split at h2
    · rename_i xs hx; exact ⟨_, _, _, ⟨h1, rfl, rfl, rfl⟩, h2⟩
    · exact h2.elim
  | box e x =>
    simp only [VE] at h ⊢
    exact ⟨_, _, _, ⟨h.1, h.2.1, h.2.2.1, rfl, rfl, rfl⟩, h.2.2.2⟩
  | store t p x =>
    simp only [VE] at h ⊢
    obtain ⟨h1, h2, h3, h4⟩ := h
    split at h4
    · exact ⟨_, _, _, ⟨h1, h2, h3, rfl, rfl, rfl⟩, h4⟩
    · exact h4.elim
  | buildSlice t len ps =>
    simp only [VE] at h ⊢
    obtain ⟨h1, h2, h3⟩ := h
    split at h3
    · exact ⟨_, _, _, ⟨h1, h2, rfl, rfl, rfl⟩, h3⟩
    · exact h3.elim
  | call c =>
    simp only [VE] at h ⊢
    split at h
    · split at h
      · rename_i ht
        simp only [if_pos ht]
        split at h
        · exact ⟨_, _, _, ⟨h.1, h.2.1, h.2.2.1, h.2.2.2.1, rfl, rfl, rfl⟩, h.2.2.2.2⟩
        · unfold EscA at h ⊢
          split at h
          · obtain ⟨h0, v, k, f, h6, h8, h7⟩ := h
            exact ⟨v, k, f, ⟨h0, v, k, f, h6, h8, rfl, rfl, rfl⟩, h7⟩
          · exact h.elim
      · rename_i ht
        simp only [if_neg ht]
        obtain ⟨v, k, f, h6, h7⟩ := h; exact ⟨v, k, f, ⟨v, k, f, h6, rfl, rfl, rfl⟩, h7⟩
    · obtain ⟨v, k, f, h6, h7⟩ := h; exact ⟨v, k, f, ⟨v, k, f, h6, rfl, rfl, rfl⟩, h7⟩
  | _ => obtain ⟨v, k, f, h6, h7⟩ := h; exact ⟨v, k, f, ⟨v, k, f, h6, rfl, rfl, rfl⟩, h7⟩
theorem VC_elim {g : Bool} {c : Call} {K : PV → (Nat → TS) → Fp → Prop} (h : VC P σ g c K) : ∃ v k f, VC P σ g c (is3 v k f) ∧ K v k f := by
  unfold VC at h ⊢
  split at h
  · rcases h with ⟨r, h1, h2⟩ | ⟨M, D, as, r, K1, h1, h2⟩ | ⟨hg, hok, v, k, f, h6, h8, h7⟩
    · split at h2
      · rename_i hc; exact ⟨_, _, _, .inl ⟨r, h1, by rw [if_pos hc]; exact ⟨rfl, rfl, rfl⟩⟩, h2⟩
      · rename_i hc; exact ⟨_, _, _, .inl ⟨r, h1, by rw [if_neg hc]; exact ⟨h2.1, rfl, rfl, rfl⟩⟩, h2.2⟩
    · exact ⟨_, _, _, .inr (.inl ⟨M, D, as, r, K1, h1, rfl, rfl, rfl⟩), h2⟩
    · exact ⟨v, k, f, .inr (.inr ⟨hg, hok, v, k, f, h6, h8, rfl, rfl, rfl⟩), h7⟩
  · exact h.elim
theorem VO_elim {ds : List (Option Tmp)} {d : Nat} {o : Oper} {K : St → Fp → Prop} (h : VO P n ds d o σ K) : ∃ s f, VO P n ds d o σ (is2 s f) ∧ K s f := by
  unfold VO at h ⊢
  obtain ⟨h0, h⟩ := h
  cases hgd : o.guard with
  | none =>
    rw [hgd] at h
    simp only at h ⊢
    cases hop : opK o.op with
    | pure =>
      rw [hop] at h
      simp only at h ⊢
      obtain ⟨h1, h2⟩ := h
      cases hv : vop P σ o.op with
      | some v => rw [hv] at h2; exact ⟨_, _, ⟨h0, h1, rfl, rfl⟩, h2⟩
      | none => rw [hv] at h2; exact h2.elim
    | call c =>
      rw [hop] at h
      simp only at h ⊢
      obtain ⟨v, k, f, h1, h2⟩ := VC_elim h
      exact ⟨_, _, ⟨h0, VC_mono (fun v' k' f' hh => by obtain ⟨rfl, rfl, rfl⟩ := hh; exact ⟨rfl, rfl⟩) h1⟩, h2⟩
    | eff =>
      rw [hop] at h
      simp only at h ⊢
      obtain ⟨v, k, f, h1, h2⟩ := VE_elim h
      exact ⟨_, _, ⟨h0, VE_mono (fun v' k' f' hh => by obtain ⟨rfl, rfl, rfl⟩ := hh; exact ⟨rfl, rfl⟩) h1⟩, h2⟩
  | some q =>
    obtain ⟨j, want⟩ := q
    rw [hgd] at h
    simp only at h ⊢
    cases hgs : gslot ds j with
    | none => rw [hgs] at h; exact h.elim
    | some t =>
      rw [hgs] at h
      simp only at h ⊢
      obtain ⟨hb, h⟩ := h
      cases hop : opK o.op with
      | pure =>
        rw [hop] at h
        simp only at h ⊢
        obtain ⟨h1, h2⟩ := h
        cases hv : vop P σ o.op with
        | some v => rw [hv] at h2; exact ⟨_, _, ⟨h0, hb, h1, rfl, rfl⟩, h2⟩
        | none => rw [hv] at h2; exact ⟨_, _, ⟨h0, hb, h1, h2.1, rfl, rfl⟩, h2.2⟩
      | call c =>
        rw [hop] at h
        simp only at h ⊢
        obtain ⟨v, k, f, h1, h2⟩ := VC_elim h
        exact ⟨_, _, ⟨h0, hb, VC_mono (fun v' k' f' hh => by obtain ⟨rfl, rfl, rfl⟩ := hh; exact ⟨rfl, rfl⟩) h1⟩, h2⟩
      | eff =>
        rw [hop] at h
        simp only at h ⊢
        by_cases hg : gb want (σ.g t) = true
        · obtain ⟨v, k, f, h1, h2⟩ := VE_elim (h.1 hg)
          exact ⟨_, _, ⟨h0, hb, fun _ => VE_mono (fun v' k' f' hh => by obtain ⟨rfl, rfl, rfl⟩ := hh; exact ⟨rfl, rfl⟩) h1, fun hf => by rw [hg] at hf; cases hf⟩, h2⟩
        · have hg' : gb want (σ.g t) = false := by simpa using hg
          exact ⟨_, _, ⟨h0, hb, fun ht => absurd ht hg, fun _ => ⟨rfl, rfl⟩⟩, h.2 hg'⟩

theorem updk {k k1 : Nat → TS} {d : Nat} {x : TS} (t : Nat) : upd k1 d x t = if t ∈ [d] then upd k d x t else k1 t := by
  simp only [upd, List.mem_singleton]; split <;> simp_all
theorem EscK_local {op : Op} {v : PV} {k : Nat → TS} {f : Fp} (h : EscK P σ op (is3 v k f)) (hs : ∀ s ∈ f.ins, τ.g s = σ.g s) (hk : ∀ t ∈ f.rd ++ f.wr, τ.k t = σ.k t) :
    ∃ k', EscK P τ op (is3 v k' f) ∧ ∀ t, k' t = if t ∈ f.wr then k t else τ.k t := by
  obtain ⟨v', k', f', he, rfl, rfl, rfl⟩ := h
  exact ⟨_, ⟨_, _, _, he.local hs hk, rfl, rfl, rfl⟩, fun t => rfl⟩
theorem VE_local {d : Nat} {op : Op} {v : PV} {k : Nat → TS} {f : Fp} (h : VE P σ d op (is3 v k f)) (hs : ∀ s ∈ f.ins, τ.g s = σ.g s) (hk : ∀ t ∈ f.rd ++ f.wr, τ.k t = σ.k t) :
    ∃ k', VE P τ d op (is3 v k' f) ∧ ∀ t, k' t = if t ∈ f.wr then k t else τ.k t := by
  cases op with
  | alloc e =>
    simp only [VE] at h ⊢
    obtain ⟨h1, h2⟩ := h
    split at h2
    · rename_i xs hx
      obtain ⟨rfl, rfl, rfl⟩ := h2
      have hd : τ.k d = σ.k d := hk d (by simp)
      exact ⟨_, ⟨by rw [hd]; exact h1, rfl, rfl, rfl⟩, fun t => updk t⟩
    · exact h2.elim
  | box e x =>
    simp only [VE] at h ⊢
    obtain ⟨h1, h2, h3, rfl, rfl, rfl⟩ := h
    have hd : τ.k d = σ.k d := hk d (by simp)
    have hx : τ.ev x = σ.ev x := ev_cg hs
    have hok := oks_cg (k := τ.k) (k' := σ.k) (x := (σ.ev x).strip) (fun t ht => hk t (List.mem_append_left _ ht))
    rw [hx, hd, hok]
    exact ⟨_, ⟨h1, h2, h3, rfl, rfl, rfl⟩, fun t => updk t⟩
  | store t p x =>
    simp only [VE] at h ⊢
    obtain ⟨h1, h2, h3, h4⟩ := h
    split at h4
    · rename_i tn tk hst
      obtain ⟨rfl, rfl, rfl⟩ := h4
      have hp : τ.ev p = σ.ev p := ev_cg (fun s hs' => hs s (List.mem_append_left _ hs'))
      have hx : τ.ev x = σ.ev x := ev_cg (fun s hs' => hs s (List.mem_append_right _ hs'))
      have hok := oks_cg (k := τ.k) (k' := σ.k) (x := (σ.ev x).strip) (fun t ht => hk t (List.mem_append_left _ ht))
      have htn : τ.k tn = σ.k tn := hk tn (by simp)
      have hstv : stv P τ.k t (σ.ev p).strip (σ.ev x).strip = some (tn, tk) := by
        have hh := hst
        unfold stv at hh ⊢
        split at hh
        · rename_i b tn' off hag ht
          have : tn' = tn := by
            split at hh
            · split at hh
              · exact (Prod.mk.inj (Option.some.inj hh)).1
              · cases hh
            · cases hh
          subst this
          rw [htn]; exact hh
        · rename_i b tn' sz i off hag ht
          have : tn' = tn := by
            split at hh
            · split at hh
              · split at hh
                · split at hh
                  · exact (Prod.mk.inj (Option.some.inj hh)).1
                  · cases hh
                · cases hh
              · cases hh
            · cases hh
          subst this
          rw [htn]; exact hh
        · cases hh
      rw [hp, hx, hok, hstv]
      exact ⟨_, ⟨h1, h2, h3, rfl, rfl, rfl⟩, fun t => updk t⟩
    · exact h4.elim
  | buildSlice t len ps =>
    simp only [VE] at h ⊢
    obtain ⟨h1, h2, h3⟩ := h
    split at h3
    · rename_i e sz es hb
      obtain ⟨rfl, rfl, rfl⟩ := h3
      have hp : ∀ p ∈ ps.toList, τ.ev p.2 = σ.ev p.2 := fun p hp => ev_cg (fun s hs' => hs s (List.mem_flatMap.2 ⟨p, hp, hs'⟩))
      have hd : τ.k d = σ.k d := hk d (by simp)
      have hall : (ps.toList.all fun p => (τ.ev p.2).ok) = true := by rw [all_cg (g := fun p => (σ.ev p.2).ok) (fun p hp' => by rw [hp p hp'])]; exact h2
      have hmap : (ps.toList.map fun p => (p.1, (τ.ev p.2).strip)) = ps.toList.map fun p => (p.1, (σ.ev p.2).strip) := map_cg (fun p hp' => by rw [hp p hp'])
      have hbs : bsl P τ.k t len (ps.toList.map fun p => (p.1, (σ.ev p.2).strip)) = some (e, sz, es) := by
        rw [← hb]
        unfold bsl
        split
        · rename_i e' sz' ht
          rw [all_cg (g := fun p => p.2.cells.length == sz' && p.2.oks σ.k) (fun q hq => by
            obtain ⟨p, hp', rfl⟩ := List.mem_map.1 hq
            simp only
            rw [oks_cg (k := τ.k) (k' := σ.k) (fun t' ht' => hk t' (List.mem_append_left _ (List.mem_flatMap.2 ⟨p, hp', ht'⟩)))])]
        · rfl
      have hfp1 : (ps.toList.flatMap fun p => (τ.ev p.2).strip.nm) = ps.toList.flatMap fun p => (σ.ev p.2).strip.nm := flatMap_cg (fun p hp' => by rw [hp p hp'])
      rw [hd, hall, hmap, hbs, hfp1]
      exact ⟨_, ⟨h1, rfl, rfl, rfl, rfl⟩, fun t => updk t⟩
    · exact h3.elim
  | call c =>
    simp only [VE] at h ⊢
    split at h
    · rename_i s x t t' hcal ha ht
      split at h
      rotate_left
      · rename_i htt
        simp only [if_neg htt]
        exact EscK_local h hs hk
      rename_i htt
      simp only [if_pos htt]
      split at h
      · rename_i e sz by' es ys wr old hap
        obtain ⟨h1, h3, h4, h6, rfl, rfl, rfl⟩ := h
        have hs1 : τ.ev s = σ.ev s := ev_cg (fun i hi => hs i (List.mem_append_left _ hi))
        have hx1 : τ.ev x = σ.ev x := ev_cg (fun i hi => hs i (List.mem_append_right _ hi))
        have hd : τ.k d = σ.k d := hk d (by simp)
        have hnm1 : ∀ q : PV, ∀ t ∈ q.nm1, t ∈ q.nm := fun q t ht => by cases q <;> first | exact ht | (simp [PV.nm1] at ht)
        have hapd : apdC P τ.k t (σ.ev s).strip (σ.ev x).strip = some (e, sz, by', es, ys, wr, old) := by
          have hh := hap
          unfold apdC at hh ⊢
          have hsr : srcs τ.k (σ.ev x).strip = srcs σ.k (σ.ev x).strip := srcs_cg (fun t' ht' => hk t' (List.mem_append_left _ (List.mem_append_left _ (hnm1 _ t' ht'))))
          rw [hsr]
          split at hh
          · rename_i e' sz' hel
            split at hh
            · rename_i b z ys' hby hz hys
              have hall : (ys'.all fun y => y.length == sz' && y.all (PV.one τ.k)) = ys'.all fun y => y.length == sz' && y.all (PV.one σ.k) := by
                refine all_cg (fun y hy => ?_)
                rw [all_cg (fun c hc => one_cg (k := τ.k) (k' := σ.k) (fun t' ht' => hk t' ?_))]
                have hys2 : ys' = ys := by
                  split at hh
                  · split at hh
                    · (simp only [Option.some.injEq, Prod.mk.injEq] at hh; exact hh.2.2.2.2.1)
                    · split at hh
                      · split at hh
                        · (simp only [Option.some.injEq, Prod.mk.injEq] at hh; exact hh.2.2.2.2.1)
                        · cases hh
                      · cases hh
                    · cases hh
                  · cases hh
                subst hys2
                exact List.mem_append_left _ (List.mem_append_right _ (List.mem_flatMap.2 ⟨y, hy, List.mem_flatMap.2 ⟨c, hc, ht'⟩⟩))
              simp only [hall]
              split at hh
              · rename_i hc
                rw [if_pos hc]
                split at hh
                · exact hh
                · rename_i tk sz2 lo m hsv
                  split at hh
                  · rename_i e2 sz3 es2 wr2 hkk
                    split at hh
                    · rename_i hcc
                      cases hh
                      have : τ.k tk = σ.k tk := hk tk (by simp)
                      rw [this, hkk]
                      simp only [if_pos hcc]
                    · cases hh
                  · cases hh
                · cases hh
              · cases hh
            · cases hh
          · cases hh
        rw [hs1, hx1, hd, hapd]
        refine ⟨_, ⟨h1, h3, h4, h6, rfl, rfl, rfl⟩, fun t => ?_⟩
        cases old with
        | none => exact updk t
        | some tk =>
          simp only [apk, upd, Option.toList_some, List.mem_cons, List.not_mem_nil, or_false]
          by_cases e1 : t = d
          · simp [e1]
          · by_cases e2 : t = tk <;> simp [e1, e2]
      · rename_i hap
        unfold EscA at h
        split at h
        · rename_i tk sz lo m hsv
          obtain ⟨h0, v', k', f', he, ⟨hsl, htk⟩, rfl, rfl, rfl⟩ := h
          have hs1 : τ.ev s = σ.ev s := ev_cg (fun i hi => hs i (hsl i hi))
          have htk1 : τ.k tk = σ.k tk := hk tk htk
          have h0' : isArr (τ.k tk) = true := by rw [htk1]; exact h0
          refine ⟨_, ?_, fun t => rfl⟩
          rw [hs1, hsv, apdC_arr h0']
          simp only
          unfold EscA
          rw [hs1, hsv]
          exact ⟨h0', _, _, _, he.local hs hk, ⟨hsl, htk⟩, rfl, rfl, rfl⟩
        · exact h.elim
    · exact EscK_local h hs hk
  | _ => exact EscK_local h hs hk

theorem callOf_cg {c : Call} (hs : ∀ s ∈ c.operands.toList.flatMap slotOf, τ.g s = σ.g s) : callOf τ c = callOf σ c ∧ (c.operands.toList.all fun x => (τ.ev x).ok) = c.operands.toList.all fun x => (σ.ev x).ok := by
  have e1 : ∀ x ∈ c.operands.toList, τ.ev x = σ.ev x := fun x hx => ev_cg (fun s hs' => hs s (List.mem_flatMap.2 ⟨x, hx, hs'⟩))
  refine ⟨?_, all_cg fun x hx => by rw [e1 x hx]⟩
  obtain ⟨cal, args, tys⟩ := c
  unfold callOf
  cases cal with
  | value f =>
    simp only
    have hf : τ.ev f = σ.ev f := e1 f (by simp [Call.operands])
    rw [hf]
    have hm : (args.toList.map fun x => (τ.ev x).strip) = args.toList.map fun x => (σ.ev x).strip := map_cg (fun x hx => by rw [e1 x (by simp only [Call.operands, Array.toList_append]; exact List.mem_append_right _ hx)])
    rw [hm]
  | _ => rfl
theorem VC_local {g : Bool} {c : Call} {v : PV} {k : Nat → TS} {f : Fp} (h : VC P σ g c (is3 v k f)) (hs : ∀ s ∈ f.ins, τ.g s = σ.g s) (hk : ∀ t ∈ f.rd ++ f.wr, τ.k t = σ.k t) :
    ∃ k', VC P τ g c (is3 v k' f) ∧ ∀ t, k' t = if t ∈ f.wr then k t else τ.k t := by
  unfold VC at h
  split at h
  · rename_i fi xs hc
    rcases h with h | h | h
    case inr.inr =>
      obtain ⟨hg, hok, v', k', f', he, hin, rfl, rfl, rfl⟩ := h
      obtain ⟨a1, a2⟩ := callOf_cg (τ := τ) (σ := σ) (c := c) (fun s hs' => hs s (hin s hs'))
      refine ⟨_, ?_, fun t => rfl⟩
      unfold VC
      rw [a1.trans hc]
      exact .inr (.inr ⟨hg, a2.trans hok, _, _, _, he.local hs hk, hin, rfl, rfl, rfl⟩)
    case inr.inl =>
      obtain ⟨M, D, as, r, K1, ⟨hg, hok, hargs, hM, hj, hw, hD, hfr, hvx⟩, rfl, rfl, rfl⟩ := h
      obtain ⟨a1, a2⟩ := callOf_cg hs
      have hkD : ∀ t ∈ D, τ.k t = σ.k t := fun t ht => hk t (by simp [ht])
      have hkM : ∀ t ∈ M.lo, τ.k t = σ.k t := fun t ht => hk t (by simp [ht])
      have hk1 : ∀ p ∈ K1, τ.k p.1 = σ.k p.1 := fun p hp => hk p.1 (by
        have : p.1 ∈ K1.map (·.1) := List.mem_map.2 ⟨p, hp, rfl⟩
        simp only [List.nil_append, List.mem_append]; exact .inr this)
      have hargs' : ∀ (xs as : List PV), argsX M σ.k D xs as → argsX M τ.k D xs as := by
        intro xs
        induction xs with
        | nil => intro as h; cases as <;> exact h
        | cons x xs ih =>
          intro as h
          cases as with
          | nil => exact h
          | cons y ys =>
            refine ⟨h.1.imp id ?_, ih ys h.2⟩
            rintro ⟨rfl, hd⟩
            obtain ⟨e1, e2⟩ := ro_cg (k := σ.k) (k' := τ.k) 4 x (fun t ht => (hkD t (hd t ht)).symm)
            exact ⟨e1, by rw [← e2]; exact hd⟩
      have hM' : M.ok τ.k := fun p hp => by
        have := hM p hp
        obtain ⟨T, s, tk⟩ := p
        cases s with
        | none => exact this
        | some o => obtain ⟨tk0, h0, h1⟩ := this; exact ⟨tk0, by rw [hkM o (List.mem_filterMap.2 ⟨_, hp, rfl⟩)]; exact h0, h1⟩
      refine ⟨aft M D K1 τ.k, ?_, fun t => ?_⟩
      · unfold VC
        rw [a1.trans hc]
        exact .inr (.inl ⟨M, D, as, r, K1, ⟨hg, a2.trans hok, hargs' _ _ hargs, hM', hj, hw, hD, fun p hp => (hk1 p hp).trans (hfr p hp), hvx⟩, rfl, rfl, rfl⟩)
      · by_cases ht : t ∈ M.lo ++ D ++ K1.map (·.1)
        · rw [if_pos ht]
          have e : τ.k t = σ.k t := hk t (by simpa using ht)
          simp only [aft, frz, e]
        · rw [if_neg ht]
          simp only [List.mem_append, not_or] at ht
          have h1 : ∀ l : List (Nat × Tok), t ∉ l.map (·.1) → mkK l t = .fresh := by
            intro l
            induction l with
            | nil => intro _; rfl
            | cons p l ih =>
              intro h
              obtain ⟨x, y⟩ := p
              simp only [List.map_cons, List.mem_cons, not_or] at h
              simp only [mkK, if_neg h.1]; exact ih h.2
          simp only [aft, h1 K1 ht.2, if_neg ht.1.1, frz, if_neg ht.1.2]
    obtain ⟨r, h1, h2⟩ := h
    have main : (∀ s ∈ c.operands.toList.flatMap slotOf, τ.g s = σ.g s) → (∀ t ∈ xs.flatMap (deS 4 σ.k), τ.k t = σ.k t) →
        callOf τ c = some (fi, xs) ∧ xs.map (roS 4 τ.k) = xs.map (roS 4 σ.k) ∧ xs.flatMap (deS 4 τ.k) = xs.flatMap (deS 4 σ.k) ∧ (g = true → (c.operands.toList.all fun x => (τ.ev x).ok) = true ∧ VF P fi (xs.map (roS 4 σ.k)) r) := by
      intro hs' hk'
      obtain ⟨a1, a2⟩ := callOf_cg hs'
      have hro : ∀ x ∈ xs, roS 4 σ.k x = roS 4 τ.k x ∧ deS 4 σ.k x = deS 4 τ.k x := fun x hx => ro_cg 4 x (fun t ht => (hk' t (List.mem_flatMap.2 ⟨x, hx, ht⟩)).symm)
      exact ⟨a1.trans hc, (map_cg fun x hx => (hro x hx).1).symm, (flatMap_cg fun x hx => (hro x hx).2).symm, fun hg => ⟨a2.trans (h1 hg).1, (h1 hg).2⟩⟩
    split at h2
    · rename_i hcond
      obtain ⟨rfl, rfl, rfl⟩ := h2
      obtain ⟨m1, m2, m3, m4⟩ := main hs (fun t ht => hk t (List.mem_append_left _ ht))
      refine ⟨τ.k, ?_, fun t => by simp⟩
      unfold VC
      rw [m1]
      simp only [m2, m3]
      exact .inl ⟨r, by rw [m2]; exact m4, by rw [m3, if_pos hcond]; exact ⟨rfl, rfl, rfl⟩⟩
    · rename_i hcond
      obtain ⟨hg, rfl, rfl, rfl⟩ := h2
      obtain ⟨m1, m2, m3, m4⟩ := main hs (fun t ht => hk t (List.mem_append_right _ ht))
      refine ⟨frz (xs.flatMap (deS 4 σ.k)) τ.k, ?_, fun t => ?_⟩
      · unfold VC
        rw [m1]
        simp only [m2, m3]
        exact .inl ⟨_, by rw [m2]; exact m4, by rw [m3, if_neg hcond]; exact ⟨hg, rfl, rfl, rfl⟩⟩
      · simp only [frz]
        split
        · rename_i ht; rw [hk t (List.mem_append_right _ ht)]
        · rfl
  · exact h.elim

theorem VO_local {ds : List (Option Tmp)} {d : Nat} {o : Oper} {s : St} {f : Fp} (h : VO P n ds d o σ (is2 s f)) (hs : ∀ i ∈ f.ins, τ.g i = σ.g i) (hk : ∀ t ∈ f.rd ++ f.wr, τ.k t = σ.k t) :
    ∃ τ', VO P n ds d o τ (is2 τ' f) ∧ (∀ i, τ'.g i = if o.dst = some i then s.g i else τ.g i) ∧ (∀ t, τ'.k t = if t ∈ f.wr then s.k t else τ.k t) := by
  have putg : ∀ (ρ : St) (k1 k2 : Nat → TS) (v : PV) (i : Nat), (St.put ⟨τ.g, k1⟩ o.dst v).g i = if o.dst = some i then (St.put ⟨ρ.g, k2⟩ o.dst v).g i else τ.g i := by
    intro ρ k1 k2 v i
    cases hd : o.dst with
    | none => simp [St.put]
    | some q =>
      simp only [St.put, upd, Option.some.injEq]
      by_cases e : i = q
      · simp [e]
      · simp [e, Ne.symm e]
  have putk : ∀ (ρ : St) (v : PV), (ρ.put o.dst v).k = ρ.k := fun ρ v => by cases o.dst <;> rfl
  unfold VO at h
  obtain ⟨h0, h⟩ := h
  cases hgd : o.guard with
  | none =>
    rw [hgd] at h
    simp only at h
    split at h
    · rename_i hop
      obtain ⟨h1, h2⟩ := h
      split at h2
      · rename_i v hv
        obtain ⟨rfl, rfl⟩ := h2
        have hv' := vop_cg (P := P) (τ := τ) (σ := σ) hs (fun t ht => hk t (List.mem_append_left _ ht))
        refine ⟨τ.put o.dst v, ?_, fun i => putg σ τ.k σ.k v i, fun t => by simp [putk]⟩
        unfold VO
        rw [hgd]
        simp only [hop]
        rw [hv', hv]
        exact ⟨h0, (vgood_cg hs).trans h1, rfl, by rw [vopNm_cg hs]⟩
      · exact h2.elim
    · rename_i c hop
      obtain ⟨v, k, f', h1, h2⟩ := VC_elim h
      obtain ⟨rfl, rfl⟩ := h2
      obtain ⟨k', h3, h4⟩ := VC_local (τ := τ) h1 hs hk
      refine ⟨St.put ⟨τ.g, k'⟩ o.dst v, ?_, fun i => putg σ k' k v i, fun t => by rw [putk, putk]; exact h4 t⟩
      unfold VO
      rw [hgd]
      simp only [hop]
      exact ⟨h0, VC_mono (fun v' k'' f' hh => by obtain ⟨rfl, rfl, rfl⟩ := hh; exact ⟨rfl, rfl⟩) h3⟩
    · rename_i hop
      obtain ⟨v, k, f', h1, h2⟩ := VE_elim h
      obtain ⟨rfl, rfl⟩ := h2
      obtain ⟨k', h3, h4⟩ := VE_local (τ := τ) h1 hs hk
      refine ⟨St.put ⟨τ.g, k'⟩ o.dst v, ?_, fun i => putg σ k' k v i, fun t => by rw [putk, putk]; exact h4 t⟩
      unfold VO
      rw [hgd]
      simp only [hop]
      exact ⟨h0, VE_mono (fun v' k'' f' hh => by obtain ⟨rfl, rfl, rfl⟩ := hh; exact ⟨rfl, rfl⟩) h3⟩
  | some q =>
    obtain ⟨j, want⟩ := q
    rw [hgd] at h
    simp only at h
    split at h
    · rename_i t hgs
      obtain ⟨hb, h⟩ := h
      have fin : ∀ τ', (isB (τ.g t) = true ∧ match opK o.op with
          | .pure => (gb want (τ.g t) = true → vgood τ o.op = true) ∧ match vop P τ o.op with
            | some v => is2 τ' f (τ.put o.dst (.mk (gb want (τ.g t)) v)) ⟨t :: o.op.operands.toList.flatMap slotOf, vopNm τ o.op, []⟩
            | none => gb want (τ.g t) = false ∧ is2 τ' f (τ.put o.dst (.und .any)) ⟨t :: o.op.operands.toList.flatMap slotOf, vopNm τ o.op, []⟩
          | .call c => VC P τ (gb want (τ.g t)) c fun v k f' => is2 τ' f (St.put ⟨τ.g, k⟩ o.dst v) ⟨t :: f'.ins, f'.rd, f'.wr⟩
          | .eff => (gb want (τ.g t) = true → VE P τ d o.op fun v k f' => is2 τ' f (St.put ⟨τ.g, k⟩ o.dst v) ⟨t :: f'.ins, f'.rd, f'.wr⟩) ∧ (gb want (τ.g t) = false → is2 τ' f (τ.put o.dst (.und .any)) ⟨[t], [], []⟩)) → VO P n ds d o τ (is2 τ' f) := by
        intro τ' hh
        unfold VO
        rw [hgd]
        simp only [hgs]
        exact ⟨h0, hh⟩
      split at h
      · rename_i hop
        obtain ⟨h1, h2⟩ := h
        split at h2
        · rename_i v hv
          obtain ⟨rfl, rfl⟩ := h2
          have ht : τ.g t = σ.g t := hs t List.mem_cons_self
          have hs' : ∀ i ∈ o.op.operands.toList.flatMap slotOf, τ.g i = σ.g i := fun i hi => hs i (List.mem_cons_of_mem _ hi)
          have hv' := vop_cg (P := P) (τ := τ) (σ := σ) hs' (fun t ht => hk t (List.mem_append_left _ ht))
          refine ⟨τ.put o.dst (.mk (gb want (σ.g t)) v), fin _ ?_, fun i => putg σ τ.k σ.k _ i, fun t => by simp [putk]⟩
          rw [ht]
          simp only [hop]
          rw [hv', hv]
          exact ⟨hb, fun hg => (vgood_cg hs').trans (h1 hg), rfl, by rw [vopNm_cg hs']⟩
        · rename_i hv
          obtain ⟨hg', rfl, rfl⟩ := h2
          have ht : τ.g t = σ.g t := hs t List.mem_cons_self
          have hs' : ∀ i ∈ o.op.operands.toList.flatMap slotOf, τ.g i = σ.g i := fun i hi => hs i (List.mem_cons_of_mem _ hi)
          have hv' := vop_cg (P := P) (τ := τ) (σ := σ) hs' (fun t ht => hk t (List.mem_append_left _ ht))
          refine ⟨τ.put o.dst (.und .any), fin _ ?_, fun i => putg σ τ.k σ.k _ i, fun t => by simp [putk]⟩
          rw [ht]
          simp only [hop]
          rw [hv', hv]
          exact ⟨hb, fun hg => (vgood_cg hs').trans (h1 hg), hg', rfl, by rw [vopNm_cg hs']⟩
      · rename_i c hop
        obtain ⟨v, k, f', h1, h2⟩ := VC_elim h
        obtain ⟨rfl, rfl⟩ := h2
        have ht : τ.g t = σ.g t := hs t List.mem_cons_self
        obtain ⟨k', h3, h4⟩ := VC_local (τ := τ) h1 (fun i hi => hs i (List.mem_cons_of_mem _ hi)) hk
        refine ⟨St.put ⟨τ.g, k'⟩ o.dst v, fin _ ?_, fun i => putg σ k' k v i, fun t => by rw [putk, putk]; exact h4 t⟩
        rw [ht]
        simp only [hop]
        exact ⟨hb, VC_mono (fun v' k'' f' hh => by obtain ⟨rfl, rfl, rfl⟩ := hh; exact ⟨rfl, rfl⟩) h3⟩
      · rename_i hop
        by_cases hg : gb want (σ.g t) = true
        · obtain ⟨v, k, f', h1, h2⟩ := VE_elim (h.1 hg)
          obtain ⟨rfl, rfl⟩ := h2
          have ht : τ.g t = σ.g t := hs t List.mem_cons_self
          obtain ⟨k', h3, h4⟩ := VE_local (τ := τ) h1 (fun i hi => hs i (List.mem_cons_of_mem _ hi)) hk
          refine ⟨St.put ⟨τ.g, k'⟩ o.dst v, fin _ ?_, fun i => putg σ k' k v i, fun t => by rw [putk, putk]; exact h4 t⟩
          rw [ht]
          simp only [hop]
          exact ⟨hb, fun _ => VE_mono (fun v' k'' f' hh => by obtain ⟨rfl, rfl, rfl⟩ := hh; exact ⟨rfl, rfl⟩) h3, fun hf => by rw [hg] at hf; cases hf⟩
        · have hg' : gb want (σ.g t) = false := by simpa using hg
          obtain ⟨rfl, rfl⟩ := h.2 hg'
          have ht : τ.g t = σ.g t := hs t List.mem_cons_self
          refine ⟨τ.put o.dst (.und .any), fin _ ?_, fun i => putg σ τ.k σ.k _ i, fun t => by simp [putk]⟩
          rw [ht]
          simp only [hop]
          exact ⟨hb, fun hx => absurd hx hg, fun _ => ⟨rfl, rfl⟩⟩
    · exact h.elim
end

end Go.V
/- The value logic, part 18: regions whose order is drawn. Nothing is assumed. -/
set_option linter.unusedVariables false
set_option linter.unusedSimpArgs false
namespace Go.V
open Go.RowKit (Below)

/-! ### What is not written stays -/
section
variable {P : Program} {σ : St} {n : Nat}
theorem EscK_frame {op : Op} {v : PV} {k : Nat → TS} {f : Fp} (h : EscK P σ op (is3 v k f)) : ∀ t, t ∉ f.wr → k t = σ.k t := by
  obtain ⟨_, _, _, he, rfl, rfl, rfl⟩ := h
  exact he.frame
theorem VE_frame {d : Nat} {op : Op} {v : PV} {k : Nat → TS} {f : Fp} (h : VE P σ d op (is3 v k f)) : ∀ t, t ∉ f.wr → k t = σ.k t := by
  cases op with
  | alloc e =>
    simp only [VE] at h
    obtain ⟨h1, h2⟩ := h
    split at h2
    · obtain ⟨rfl, rfl, rfl⟩ := h2; intro t ht; simp only [List.mem_singleton] at ht; simp [upd, ht]
    · exact h2.elim
  | box e x =>
    simp only [VE] at h
    obtain ⟨h1, h2, h3, rfl, rfl, rfl⟩ := h
    intro t ht; simp only [List.mem_singleton] at ht; simp [upd, ht]
  | store t p x =>
    simp only [VE] at h
    obtain ⟨h1, h2, h3, h4⟩ := h
    split at h4
    · obtain ⟨rfl, rfl, rfl⟩ := h4; intro t ht; simp only [List.mem_singleton] at ht; simp [upd, ht]
    · exact h4.elim
  | buildSlice t len ps =>
    simp only [VE] at h
    obtain ⟨h1, h2, h3⟩ := h
    split at h3
    · obtain ⟨rfl, rfl, rfl⟩ := h3; intro t ht; simp only [List.mem_singleton] at ht; simp [upd, ht]
    · exact h3.elim
  | call c =>
    simp only [VE] at h
    split at h
    · split at h
      rotate_left
      · exact EscK_frame h
      split at h
      · rename_i old _
        obtain ⟨h1, h3, h4, h6, rfl, rfl, rfl⟩ := h
        intro t ht
        cases old with
        | none => simp only [Option.toList_none, List.mem_singleton] at ht; simp [apk, upd, ht]
        | some tk =>
          simp only [Option.toList_some, List.mem_cons, List.not_mem_nil, or_false, not_or] at ht
          simp [apk, upd, ht.1, ht.2]
      · exact EscK_frame h.k
    · exact EscK_frame h
  | _ => exact EscK_frame h
theorem VC_frame {g : Bool} {c : Call} {v : PV} {k : Nat → TS} {f : Fp} (h : VC P σ g c (is3 v k f)) : ∀ t, t ∉ f.wr → k t = σ.k t := by
  unfold VC at h
  split at h
  · rcases h with ⟨r, h1, h2⟩ | ⟨M, D, as, r, K1, h1, rfl, rfl, rfl⟩ | h
    rotate_left 2
    · exact EscK_frame h.k
    · split at h2
      · obtain ⟨rfl, rfl, rfl⟩ := h2; exact fun t _ => rfl
      · obtain ⟨_, rfl, rfl, rfl⟩ := h2; intro t ht; simp only at ht; simp only [frz]; rw [if_neg ht]
    · intro t ht
      simp only [List.mem_append, not_or] at ht
      have h1 : ∀ l : List (Nat × Tok), t ∉ l.map (·.1) → mkK l t = .fresh := by
        intro l
        induction l with
        | nil => intro _; rfl
        | cons p l ih =>
          intro h
          obtain ⟨x, y⟩ := p
          simp only [List.map_cons, List.mem_cons, not_or] at h
          simp only [mkK, if_neg h.1]; exact ih h.2
      simp only [aft, h1 K1 ht.2, if_neg ht.1.1, frz, if_neg ht.1.2]
  · exact h.elim
theorem VO_frame {ds : List (Option Tmp)} {d : Nat} {o : Oper} {s : St} {f : Fp} (h : VO P n ds d o σ (is2 s f)) : (∀ i, o.dst ≠ some i → s.g i = σ.g i) ∧ ∀ t, t ∉ f.wr → s.k t = σ.k t := by
  have putg : ∀ (k1 : Nat → TS) (v : PV) (i : Nat), o.dst ≠ some i → (St.put ⟨σ.g, k1⟩ o.dst v).g i = σ.g i := by
    intro k1 v i hi
    cases hd : o.dst with
    | none => rfl
    | some q =>
      rw [hd] at hi
      have : i ≠ q := fun e => hi (e ▸ rfl)
      simp [St.put, upd, this]
  have putk : ∀ (ρ : St) (v : PV), (ρ.put o.dst v).k = ρ.k := fun ρ v => by cases o.dst <;> rfl
  unfold VO at h
  obtain ⟨h0, h⟩ := h
  cases hgd : o.guard with
  | none =>
    rw [hgd] at h
    simp only at h
    cases hop : opK o.op with
    | pure =>
      rw [hop] at h
      simp only at h
      obtain ⟨h1, h2⟩ := h
      cases hv : vop P σ o.op with
      | some v => rw [hv] at h2; obtain ⟨rfl, rfl⟩ := h2; exact ⟨putg σ.k v, fun t _ => by rw [putk]⟩
      | none => rw [hv] at h2; exact h2.elim
    | call c =>
      rw [hop] at h
      simp only at h
      obtain ⟨v, k, f', h1, h2⟩ := VC_elim h
      obtain ⟨rfl, rfl⟩ := h2
      exact ⟨putg k v, fun t ht => by rw [putk]; exact VC_frame h1 t ht⟩
    | eff =>
      rw [hop] at h
      simp only at h
      obtain ⟨v, k, f', h1, h2⟩ := VE_elim h
      obtain ⟨rfl, rfl⟩ := h2
      exact ⟨putg k v, fun t ht => by rw [putk]; exact VE_frame h1 t ht⟩
  | some q =>
    obtain ⟨j, want⟩ := q
    rw [hgd] at h
    simp only at h
    cases hgs : gslot ds j with
    | none => rw [hgs] at h; exact h.elim
    | some t =>
      rw [hgs] at h
      simp only at h
      obtain ⟨hb, h⟩ := h
      cases hop : opK o.op with
      | pure =>
        rw [hop] at h
        simp only at h
        obtain ⟨h1, h2⟩ := h
        cases hv : vop P σ o.op with
        | some v => rw [hv] at h2; obtain ⟨rfl, rfl⟩ := h2; exact ⟨putg σ.k _, fun t _ => by rw [putk]⟩
        | none => rw [hv] at h2; obtain ⟨_, rfl, rfl⟩ := h2; exact ⟨putg σ.k _, fun t _ => by rw [putk]⟩
      | call c =>
        rw [hop] at h
        simp only at h
        obtain ⟨v, k, f', h1, h2⟩ := VC_elim h
        obtain ⟨rfl, rfl⟩ := h2
        exact ⟨putg k v, fun t ht => by rw [putk]; exact VC_frame h1 t ht⟩
      | eff =>
        rw [hop] at h
        simp only at h
        by_cases hg : gb want (σ.g t) = true
        · obtain ⟨v, k, f', h1, h2⟩ := VE_elim (h.1 hg)
          obtain ⟨rfl, rfl⟩ := h2
          exact ⟨putg k v, fun t ht => by rw [putk]; exact VE_frame h1 t ht⟩
        · have hg' : gb want (σ.g t) = false := by simpa using hg
          obtain ⟨rfl, rfl⟩ := h.2 hg'
          exact ⟨putg σ.k _, fun t _ => by rw [putk]⟩
end

/-! ### Traces -/
instance : Inhabited Fp := ⟨⟨[], [], []⟩⟩
theorem VL_trace {P : Program} {n : Nat} {ds : List (Option Tmp)} : ∀ (l : List Oper) (nb : Nat) {σ : St} {L : List Fp} {K : St → List Fp → Prop}, VL P n ds nb l σ L K →
    ∃ (S : Nat → St) (F : Nat → Fp), S 0 = σ ∧ (∀ i o, l[i]? = some o → VO P n ds (nb + i) o (S i) (is2 (S (i + 1)) (F i))) ∧ K (S l.length) (((List.range l.length).map F).reverse ++ L)
  | [], nb, σ, L, K, h => ⟨fun _ => σ, fun _ => default, rfl, fun i o hi => by simp at hi, h⟩
  | o :: r, nb, σ, L, K, h => by
    obtain ⟨s, f, h1, h2⟩ := VO_elim h
    obtain ⟨S, F, hS, hV, hK⟩ := VL_trace r (nb + 1) h2
    refine ⟨fun | 0 => σ | i + 1 => S i, fun | 0 => f | i + 1 => F i, rfl, fun i o' hi => ?_, ?_⟩
    · cases i with
      | zero => simp at hi; subst hi; simp only [hS]; exact h1
      | succ i =>
        have := hV i o' (by simpa using hi)
        rwa [show nb + 1 + i = nb + (i + 1) by omega] at this
    · simp only [List.length_cons]
      rw [List.range_succ_eq_map]
      simp only [List.map_cons, List.map_map, List.reverse_cons, List.append_assoc, List.singleton_append]
      exact hK

/-! ### Orders -/
def befGo : List Oper → List (List Nat) → List (List Nat)
  | [], acc => acc
  | o :: r, acc => befGo r (acc ++ [(o.after.toList.filter fun e => Region.binds .any e).flatMap fun e => e.on :: acc.getD e.on []])
def befs (ops : List Oper) : List (List Nat) := befGo ops []
def upw (ops : List Oper) : Bool := ops.zipIdx.all fun (o, i) => o.after.toList.all fun e => !Region.binds .any e || decide (e.on < i)
def apart (x y : Option Tmp) (f g : Fp) : Bool :=
  (match x with | some d => !g.ins.contains d && y != some d | none => true) && (match y with | some d => !f.ins.contains d | none => true) &&
  (f.wr.all fun t => !g.rd.contains t && !g.wr.contains t) && (g.wr.all fun t => !f.rd.contains t)
def drawOk (ops : List Oper) (L : List Fp) : Bool :=
  upw ops && (List.range ops.length).all fun j => (List.range j).all fun i => ((befs ops).getD j []).contains i || apart ((ops[i]?).bind (·.dst)) ((ops[j]?).bind (·.dst)) (L.getD i default) (L.getD j default)

theorem befGo_spec (D : Nat → Prop) : ∀ (l : List Oper) (acc : List (List Nat)) (all : List Oper), all = all.take acc.length ++ l → acc.length ≤ all.length →
    (∀ (j : Nat) (b : List Nat) (o : Oper), acc[j]? = some b → all[j]? = some o → (∀ e ∈ o.after, Region.binds .any e = true → D e.on) → (∀ j o, all[j]? = some o → D j → ∀ e ∈ o.after, Region.binds .any e = true → D e.on) → ∀ i ∈ b, D i) →
    ∀ (j : Nat) (b : List Nat) (o : Oper), (befGo l acc)[j]? = some b → all[j]? = some o → (∀ e ∈ o.after, Region.binds .any e = true → D e.on) → (∀ j o, all[j]? = some o → D j → ∀ e ∈ o.after, Region.binds .any e = true → D e.on) → ∀ i ∈ b, D i
  | [], acc, all, hall, hle, h => h
  | o :: r, acc, all, hall, hle, h => by
    have hlen : acc.length < all.length := by
      have := congrArg List.length hall
      simp at this; omega
    have ho : all[acc.length]? = some o := by
      rw [hall, List.getElem?_append_right (by simp; omega)]
      simp [Nat.min_eq_left (Nat.le_of_lt hlen)]
    refine befGo_spec D r _ all ?_ (by simp; omega) ?_
    · rw [List.length_append, List.length_singleton, List.take_add_one, ho]
      simp only [Option.toList_some, List.append_assoc, List.singleton_append]
      exact hall
    · intro j b o' hb ho' hr hc
      by_cases hj : j < acc.length
      · rw [List.getElem?_append_left hj] at hb
        exact h j b o' hb ho' hr hc
      · rw [List.getElem?_append_right (by omega)] at hb
        have hj' : j = acc.length := by
          rcases Nat.lt_or_ge acc.length j with hlt | hge
          · rw [List.getElem?_eq_none (by simp; omega)] at hb; cases hb
          · omega
        subst hj'
        simp at hb
        rw [ho] at ho'
        cases ho'
        subst hb
        intro i hi
        obtain ⟨e, he, hi⟩ := List.mem_flatMap.1 hi
        obtain ⟨he, hb⟩ := List.mem_filter.1 he
        have hD := hr e (by simpa using he) hb
        rcases List.mem_cons.1 hi with rfl | hi
        · exact hD
        · have hi : i ∈ (acc[e.on]?).getD [] := by simpa using hi
          cases hacc : acc[e.on]? with
          | none => rw [hacc] at hi; cases hi
          | some b' =>
            rw [hacc] at hi
            obtain ⟨hlt, _⟩ := List.getElem?_eq_some_iff.1 hacc
            have hoe : all[e.on]? = some (all[e.on]'(by omega)) := List.getElem?_eq_getElem _
            exact h e.on b' _ hacc hoe (fun e' he' hb' => hc _ _ hoe hD e' he' hb') hc i (by simpa using hi)
/-- What is listed is closed: all before it is listed. -/
theorem befs_spec {ops : List Oper} (D : Nat → Prop) (hc : ∀ j o, ops[j]? = some o → D j → ∀ e ∈ o.after, Region.binds .any e = true → D e.on) {j : Nat} {o : Oper} (ho : ops[j]? = some o) (hr : ∀ e ∈ o.after, Region.binds .any e = true → D e.on) :
    ∀ i ∈ (befs ops).getD j [], D i := by
  intro i hi
  simp only [List.getD] at hi
  cases hb : (befs ops)[j]? with
  | none => rw [hb] at hi; cases hi
  | some b =>
    rw [hb] at hi
    exact befGo_spec D ops [] ops (by simp) (by simp) (by intro j b o hb; simp at hb) j b o hb ho hr hc i (by simpa using hi)

/-- Values over time, with their writers: what is there now is what was there at some time, and just the writers before are done. -/
structure Now {α β : Type} (N : Nat) (f : Nat → α → β) (W : Nat → α → Prop) (D : Nat → Prop) (cur : α → β) : Prop where
  at_ : ∀ x, ∃ j, j ≤ N ∧ cur x = f j x ∧ ∀ i, i < N → W i x → (D i ↔ i < j)
theorem frame_range {α β : Type} {f : Nat → α → β} {W : Nat → α → Prop} {N : Nat} (hf : ∀ i x, i < N → ¬ W i x → f (i + 1) x = f i x) {x : α} : ∀ (m i : Nat), i + m ≤ N → (∀ j, i ≤ j → j < i + m → ¬ W j x) → f (i + m) x = f i x
  | 0, i, _, _ => rfl
  | m + 1, i, h, hn => by
    rw [← Nat.add_assoc, hf _ _ (by omega) (hn _ (by omega) (by omega))]
    exact frame_range hf m i (by omega) (fun j h1 h2 => hn j h1 (by omega))
theorem Now.read {α β : Type} {N : Nat} {f : Nat → α → β} {W : Nat → α → Prop} {D : Nat → Prop} {cur : α → β} (h : Now N f W D cur) (hf : ∀ i x, i < N → ¬ W i x → f (i + 1) x = f i x) {x : α} {i : Nat} (hi : i ≤ N)
    (h0 : i < N → W i x → ¬ D i) (h1 : ∀ m, m < i → W m x → D m) (h2 : ∀ m, i < m → m < N → W m x → ¬ D m) : cur x = f i x := by
  obtain ⟨j, hj, hc, hw⟩ := h.at_ x
  rw [hc]
  by_cases hij : i ≤ j
  · have := frame_range hf (x := x) (j - i) i (by omega) (fun m hm1 hm2 hW => by
      have hm : m < j := by omega
      have hD := (hw m (by omega) hW).2 hm
      rcases Nat.eq_or_lt_of_le hm1 with e | e
      · subst e; exact h0 (by omega) hW hD
      · exact h2 m e (by omega) hW hD)
    rwa [show i + (j - i) = j by omega] at this
  · have := frame_range hf (x := x) (i - j) j (by omega) (fun m hm1 hm2 hW => by
      have hD := h1 m (by omega) hW
      have := (hw m (by omega) hW).1 hD
      omega)
    rw [show j + (i - j) = i by omega] at this
    exact this.symm
theorem Now.write {α β : Type} {N : Nat} {f : Nat → α → β} {W : Nat → α → Prop} {D : Nat → Prop} {cur cur' : α → β} (h : Now N f W D cur) {i : Nat} (hi : i < N)
    (hnew : ∀ x, W i x → cur' x = f (i + 1) x) (hold : ∀ x, ¬ W i x → cur' x = cur x)
    (h1 : ∀ x m, W i x → m < i → W m x → D m) (h2 : ∀ x m, W i x → i < m → m < N → W m x → ¬ D m) : Now N f W (fun m => m = i ∨ D m) cur' := by
  refine ⟨fun x => ?_⟩
  by_cases hW : W i x
  · refine ⟨i + 1, hi, hnew x hW, fun m hm hWm => ⟨fun hd => ?_, fun hlt => ?_⟩⟩
    · rcases hd with rfl | hd
      · omega
      · rcases Nat.lt_or_ge i m with hl | hl
        · exact absurd hd (h2 x m hW hl hm hWm)
        · omega
    · rcases Nat.eq_or_lt_of_le (Nat.le_of_lt_succ hlt) with e | e
      · exact .inl e
      · exact .inr (h1 x m hW e hWm)
  · obtain ⟨j, hj, hc, hw⟩ := h.at_ x
    refine ⟨j, hj, (hold x hW).trans hc, fun m hm hWm => ⟨fun hd => ?_, fun hlt => .inr ((hw m hm hWm).2 hlt)⟩⟩
    rcases hd with rfl | hd
    · exact absurd hWm hW
    · exact (hw m hm hWm).1 hd

theorem countP_lt {α : Type} {p q : α → Bool} {l : List α} {x : α} (hx : x ∈ l) (hpx : p x = true) (hqx : q x = false) (h : ∀ y, q y = true → p y = true) : l.countP q < l.countP p := by
  induction l with
  | nil => cases hx
  | cons y l ih =>
    have hle : l.countP q ≤ l.countP p := List.countP_mono_left fun y _ => h y
    rcases List.mem_cons.1 hx with rfl | hx
    · simp [List.countP_cons, hpx, hqx]; omega
    · have := ih hx
      have hy := h y
      simp only [List.countP_cons]
      cases hq : q y <;> cases hp : p y <;> simp_all <;> omega

theorem StRep.drawn {fr : Fr} {μ : Nat → Option Pl} {n : Nat} {σ : St} {a : Act} {w : World} (h : StRep fr μ n σ a w) : StRep fr μ n σ a { w with drawn := w.drawn + 1 } :=
  h.below ⟨rfl, rfl, rfl, Nat.le_refl _, fun _ _ => rfl⟩

section
variable {P : Program} {fr : Fr} {μ : Nat → Option Pl} {w : World} {n : Nat} {σ : St} {a : Act}
theorem draw_run {ops : Array Oper} {ds : List (Option Tmp)} (hds : ∀ j t, gslot ds j = some t → (ops[j]?).bind (·.dst) = some t) {Q : Exit → Act → World → Prop} {nb : Nat} {K : St → Prop}
    (h : StRep fr μ n σ a w) (hv : VL P n ds nb ops.toList σ [] fun σ' L => drawOk ops.toList L.reverse = true ∧ K σ') (hn : ∀ σ' μ' a' w', K σ' → StRep fr μ' n σ' a' w' → Q .normal a' w') :
    wpAny P .any ops Q ops.size (Array.replicate ops.size false) a w := by
  obtain ⟨S, F, hS, hV, hok, hK⟩ := VL_trace ops.toList nb hv
  simp only [List.append_nil, List.reverse_reverse] at hok
  have hV' : ∀ i o, ops[i]? = some o → VO P n ds (nb + i) o (S i) (is2 (S (i + 1)) (F i)) := fun i o ho => hV i o (by simpa using ho)
  let N := ops.size
  have hlen : ops.toList.length = N := by simp [N]
  rw [hlen] at hok hK
  simp only [drawOk, Bool.and_eq_true, List.all_eq_true, List.mem_range, hlen] at hok
  obtain ⟨hup, hpair⟩ := hok
  have hup' : ∀ i o, ops[i]? = some o → ∀ e ∈ o.after, Region.binds .any e = true → e.on < i := by
    intro i o ho e he hb
    have := List.all_eq_true.1 hup (o, i) (by rw [List.mem_zipIdx_iff_getElem?]; simpa using ho)
    have := List.all_eq_true.1 this e (by simpa using he)
    simpa [hb] using this
  have hF : ∀ i, i < N → ((List.range N).map F).getD i default = F i := fun i hi => by simp [List.getD, List.getElem?_map, List.getElem?_range hi]
  have hpr : ∀ i j, i < j → j < N → i ∈ (befs ops.toList).getD j [] ∨ apart ((ops[i]?).bind (·.dst)) ((ops[j]?).bind (·.dst)) (F i) (F j) = true := by
    intro i j hij hj
    have := hpair j hj i hij
    rw [hF i (by omega), hF j hj] at this
    simp only [Bool.or_eq_true, List.contains_eq_mem, decide_eq_true_eq] at this
    simpa using this
  let Wg : Nat → Nat → Prop := fun i s => (ops[i]?).bind (·.dst) = some s
  let Wk : Nat → Nat → Prop := fun i t => t ∈ (F i).wr
  have fg : ∀ i x, i < N → ¬ Wg i x → (S (i + 1)).g x = (S i).g x := fun i x hi hW => by
    have ho : ops[i]? = some ops[i] := Array.getElem?_eq_getElem hi
    exact (VO_frame (hV' i _ ho)).1 x (fun e => hW (by simp only [Wg, ho, Option.bind_some]; exact e))
  have fk : ∀ i x, i < N → ¬ Wk i x → (S (i + 1)).k x = (S i).k x := fun i x hi hW => by
    have ho : ops[i]? = some ops[i] := Array.getElem?_eq_getElem hi
    exact (VO_frame (hV' i _ ho)).2 x hW
  have apg : ∀ i j s, apart ((ops[i]?).bind (·.dst)) ((ops[j]?).bind (·.dst)) (F i) (F j) = true → (Wg i s → s ∉ (F j).ins ∧ ¬ Wg j s) ∧ (Wg j s → s ∉ (F i).ins ∧ ¬ Wg i s) := by
    intro i j s hap
    simp only [apart, Bool.and_eq_true] at hap
    obtain ⟨⟨⟨h1, h2⟩, _⟩, _⟩ := hap
    constructor
    · intro hW
      simp only [Wg] at hW ⊢
      rw [hW] at h1
      simp only [Bool.and_eq_true, Bool.not_eq_true', bne_iff_ne, ne_eq] at h1
      exact ⟨by simpa using h1.1, h1.2⟩
    · intro hW
      simp only [Wg] at hW ⊢
      rw [hW] at h2
      refine ⟨by simpa using h2, fun hi => ?_⟩
      rw [hi, hW] at h1
      simp at h1
  have apk : ∀ i j t, apart ((ops[i]?).bind (·.dst)) ((ops[j]?).bind (·.dst)) (F i) (F j) = true → (Wk i t → t ∉ (F j).rd ∧ ¬ Wk j t) ∧ (Wk j t → t ∉ (F i).rd ∧ ¬ Wk i t) := by
    intro i j t hap
    simp only [apart, Bool.and_eq_true, List.all_eq_true] at hap
    obtain ⟨⟨_, h3⟩, h4⟩ := hap
    have h3' : ∀ t, Wk i t → t ∉ (F j).rd ∧ ¬ Wk j t := fun t hW => by have := h3 t hW; simpa [Wk] using this
    exact ⟨h3' t, fun hW => ⟨by have := h4 t hW; simpa using this, fun hi => (h3' t hi).2 hW⟩⟩
  have done : ∀ (listed : Array Bool) (τ : St) (μ : Nat → Option Pl) (a : Act) (w : World), StRep fr μ n τ a w → listed.size = N →
      (∀ j o, ops[j]? = some o → listed.getD j false = true → ∀ e ∈ o.after, Region.binds .any e = true → listed.getD e.on false = true) →
      Now N (fun i => (S i).g) Wg (fun i => listed.getD i false = true) τ.g → Now N (fun i => (S i).k) Wk (fun i => listed.getD i false = true) τ.k →
      Region.ready .any ops listed = [] → Q .normal a w := by
    intro listed τ μ a w hst hsz hcl hg hk hready
    have hall : ∀ i, i < N → listed.getD i false = true := by
      intro i
      induction i using Nat.strongRecOn with
      | _ i IH =>
        intro hi
        have ho : ops[i]? = some ops[i] := Array.getElem?_eq_getElem hi
        cases hl : listed.getD i true with
        | true =>
          have : listed[i]? = some listed[i] := Array.getElem?_eq_getElem (by omega)
          simp only [Array.getD_eq_getD_getElem?, this, Option.getD_some] at hl ⊢
          exact hl
        | false =>
          have : i ∈ Region.ready .any ops listed := mem_ready.2 ⟨hl, _, ho, fun e he hb => by
            have := hup' i _ ho e he hb
            exact IH e.on this (by omega)⟩
          rw [hready] at this
          cases this
    have eg : τ.g = (S N).g := funext fun x => hg.read fg (Nat.le_refl _) (fun h => by omega) (fun m hm _ => hall m hm) (fun m h1 h2 => by omega)
    have ek : τ.k = (S N).k := funext fun x => hk.read fk (Nat.le_refl _) (fun h => by omega) (fun m hm _ => hall m hm) (fun m h1 h2 => by omega)
    have : τ = S N := by
      cases hτ : τ with
      | mk g k => cases hs : S N with
        | mk g' k' => rw [hτ, hs] at eg ek; cases eg; cases ek; rfl
    rw [this] at hst
    exact hn _ _ _ _ hK hst
  have main : ∀ (fuel : Nat) (listed : Array Bool) (τ : St) (μ : Nat → Option Pl) (a : Act) (w : World), StRep fr μ n τ a w → listed.size = N →
      (List.range N).countP (fun i => !listed.getD i true) ≤ fuel →
      (∀ j o, ops[j]? = some o → listed.getD j false = true → ∀ e ∈ o.after, Region.binds .any e = true → listed.getD e.on false = true) →
      Now N (fun i => (S i).g) Wg (fun i => listed.getD i false = true) τ.g → Now N (fun i => (S i).k) Wk (fun i => listed.getD i false = true) τ.k →
      wpAny P .any ops Q fuel listed a w := by
    intro fuel
    induction fuel with
    | zero =>
      intro listed τ μ a w hst hsz hcnt hcl hg hk
      have hall : ∀ i, i < N → listed.getD i true = true := fun i hi => by
        have h0 : (List.range N).countP (fun i => !listed.getD i true) = 0 := by omega
        have := (List.countP_eq_zero.1 h0) i (List.mem_range.2 hi)
        simpa using this
      have hready : Region.ready .any ops listed = [] := by
        apply List.eq_nil_iff_forall_not_mem.2
        intro i hi
        obtain ⟨h1, o, ho, _⟩ := mem_ready.1 hi
        rw [hall i (Array.getElem?_eq_some_iff.1 ho).1] at h1
        cases h1
      exact ⟨hready, done listed τ μ a w hst hsz hcl hg hk hready⟩
    | succ fuel ih =>
      intro listed τ μ a w hst hsz hcnt hcl hg hk
      refine ⟨fun hready => done listed τ μ a w hst hsz hcl hg hk hready, fun i hi => ?_⟩
      obtain ⟨hnl, o, ho, hafter⟩ := mem_ready.1 hi
      have hiN : i < N := (Array.getElem?_eq_some_iff.1 ho).1
      have hnl' : ¬ listed.getD i false = true := by
        have : listed[i]? = some listed[i] := Array.getElem?_eq_getElem (by omega)
        simp only [Array.getD_eq_getD_getElem?, this, Option.getD_some] at hnl ⊢
        simp [hnl]
      have hcl' : ∀ j o, ops.toList[j]? = some o → listed.getD j false = true → ∀ e ∈ o.after, Region.binds .any e = true → listed.getD e.on false = true := fun j o ho => hcl j o (by simpa using ho)
      have hbi : ∀ m ∈ (befs ops.toList).getD i [], listed.getD m false = true := befs_spec (fun m => listed.getD m false = true) hcl' (by simpa using ho) hafter
      have hbj : ∀ m, m < N → listed.getD m false = true → i ∉ (befs ops.toList).getD m [] := fun m hm hl hin => by
        have hom : ops[m]? = some ops[m] := Array.getElem?_eq_getElem hm
        exact hnl' (befs_spec (fun m => listed.getD m false = true) hcl' (j := m) (by simpa using hom) (hcl m _ hom hl) i hin)
      -- what it reads is there
      have hins : ∀ s ∈ (F i).ins, τ.g s = (S i).g s := fun s hs => hg.read fg (Nat.le_of_lt hiN) (fun _ _ => hnl')
        (fun m hm hW => (hpr m i hm hiN).elim (hbi m) (fun hap => absurd hs ((apg m i s hap).1 hW).1))
        (fun m hm hmN hW hD => (hpr i m hm hmN).elim (hbj m hmN hD) (fun hap => absurd hs ((apg i m s hap).2 hW).1))
      have hnms : ∀ t ∈ (F i).rd ++ (F i).wr, τ.k t = (S i).k t := fun t ht => hk.read fk (Nat.le_of_lt hiN) (fun _ _ => hnl')
        (fun m hm hW => (hpr m i hm hiN).elim (hbi m) (fun hap => (List.mem_append.1 ht).elim (fun h1 => absurd h1 ((apk m i t hap).1 hW).1) (fun h1 => absurd h1 ((apk m i t hap).1 hW).2)))
        (fun m hm hmN hW hD => (hpr i m hm hmN).elim (hbj m hmN hD) (fun hap => (List.mem_append.1 ht).elim (fun h1 => absurd h1 ((apk i m t hap).2 hW).1) (fun h1 => absurd h1 ((apk i m t hap).2 hW).2)))
      obtain ⟨τ', hVO, hg', hk'⟩ := VO_local (hV' i o ho) hins hnms
      have hlist : ∀ m, ((listed.setIfInBounds i true).getD m false = true) = (m = i ∨ listed.getD m false = true) := fun m => by
        apply propext
        by_cases e : m = i
        · subst e; simp [Array.getD_eq_getD_getElem?, Array.getElem?_setIfInBounds, hsz, hiN]
        · have : i ≠ m := fun h => e h.symm
          simp [Array.getD_eq_getD_getElem?, Array.getElem?_setIfInBounds_ne this, e]
      have hWi : ∀ s, Wg i s ↔ o.dst = some s := fun s => by simp [Wg, ho]
      have next : ∀ μ' a' w', StRep fr μ' n τ' a' w' → wpAny P .any ops Q fuel (listed.setIfInBounds i true) a' w' := by
        intro μ' a' w' hst'
        refine ih _ τ' μ' a' w' hst' (by simpa using hsz) ?_ ?_ ?_ ?_
        · have hlt := countP_lt (p := fun m => !listed.getD m true) (q := fun m => !(listed.setIfInBounds i true).getD m true) (l := List.range N) (List.mem_range.2 hiN) (by simp [hnl]) (by simp [Array.getD_eq_getD_getElem?, Array.getElem?_setIfInBounds, hsz, hiN]) (fun m hm => by
            by_cases e : m = i
            · subst e; simp [Array.getD_eq_getD_getElem?, Array.getElem?_setIfInBounds, hsz, hiN] at hm
            · have : i ≠ m := fun h => e h.symm
              simpa [Array.getD_eq_getD_getElem?, Array.getElem?_setIfInBounds_ne this] using hm)
          omega
        · intro j oj hoj hl e he hb
          rw [hlist] at hl ⊢
          rcases hl with rfl | hl
          · rw [ho] at hoj; cases hoj; exact .inr (hafter e he hb)
          · exact .inr (hcl j oj hoj hl e he hb)
        · simp only [hlist]
          refine hg.write hiN (fun s hW => ?_) (fun s hW => ?_) (fun s m hW hm hWm => ?_) (fun s m hW hm hmN hWm hD => ?_)
          · rw [hg', if_pos ((hWi s).1 hW)]
          · rw [hg', if_neg (fun e => hW ((hWi s).2 e))]
          · exact (hpr m i hm hiN).elim (hbi m) (fun hap => absurd hW ((apg m i s hap).1 hWm).2)
          · exact (hpr i m hm hmN).elim (hbj m hmN hD) (fun hap => absurd hWm ((apg i m s hap).1 hW).2)
        · simp only [hlist]
          refine hk.write hiN (fun t hW => ?_) (fun t hW => ?_) (fun t m hW hm hWm => ?_) (fun t m hW hm hmN hWm hD => ?_)
          · rw [hk', if_pos hW]
          · rw [hk', if_neg hW]
          · exact (hpr m i hm hiN).elim (hbi m) (fun hap => absurd hW ((apk m i t hap).1 hWm).2)
          · exact (hpr i m hm hmN).elim (hbj m hmN hD) (fun hap => absurd hWm ((apk i m t hap).1 hW).2)
      have hrun := VO_run (Q := Q) (next := wpAny P .any ops Q fuel (listed.setIfInBounds i true)) hds hst hVO (fun σ' f μ' a' w' hK hst' => by
        obtain ⟨rfl, rfl⟩ := hK
        exact next μ' a' w' hst')
      unfold wpOp
      simp only [ho]
      split
      · rename_i hw; rw [if_pos hw] at hrun; exact .inl hrun
      · rename_i hw; rw [if_neg hw] at hrun; exact hrun
  refine main N _ σ μ a w h (by simp [N]) (Nat.le_trans List.countP_le_length (by simp)) ?_ ?_ ?_
  · intro j o ho hl
    simp [Array.getD_eq_getD_getElem?, Array.getElem?_replicate] at hl
    split at hl <;> simp at hl
  · refine ⟨fun x => ⟨0, Nat.zero_le _, by rw [hS], fun i hi hW => ⟨fun hl => ?_, fun hh => by omega⟩⟩⟩
    simp [Array.getD_eq_getD_getElem?, Array.getElem?_replicate] at hl
    split at hl <;> simp at hl
  · refine ⟨fun x => ⟨0, Nat.zero_le _, by rw [hS], fun i hi hW => ⟨fun hl => ?_, fun hh => by omega⟩⟩⟩
    simp [Array.getD_eq_getD_getElem?, Array.getElem?_replicate] at hl
    split at hl <;> simp at hl
end

def VW (P : Program) (n : Nat) : Code → (Exit → St → Prop) → St → Prop
  | .skip, Q, σ => Q .normal σ
  | .region id ops false, Q, σ => VL P n (ops.toList.map (·.dst)) (1000 * (id + 1)) ops.toList σ [] fun σ' _ => Q .normal σ'
  | .region id ops true, Q, σ => P.follows .mixedOrders = true ∧ VL P n (ops.toList.map (·.dst)) (1000 * (id + 1)) ops.toList σ [] fun σ' L => drawOk ops.toList L.reverse = true ∧ Q .normal σ'
  | .seq x y, Q, σ => VW P n x (fun e σ' => match e with | .normal => VW P n y Q σ' | e => Q e σ') σ
  | .cond c x y, Q, σ => match σ.ev c with
    | .bool t => (t = true → VW P n x Q σ) ∧ (t = false → VW P n y Q σ)
    | _ => False
  | .block id c, Q, σ => VW P n c (fun e σ' => match e with | .exit j => if j = id then Q .normal σ' else Q (.exit j) σ' | e => Q e σ') σ
  | .loop c, Q, σ => ∀ X : St → Prop, (∀ σ τ, Le n σ τ → VW P n c (fun e σ' => match e with | .normal => X σ' | e => Q e σ') τ → X σ) → X σ
  | .exit id, Q, σ => Q (.exit id) σ
  | .ret, Q, σ => Q .ret σ
  | _, _, _ => False

section
variable {P : Program} {fr : Fr} {μ : Nat → Option Pl} {w : World} {n : Nat} {σ : St} {a : Act}
/-- The machine's exit, told by values. -/
def QW (fr : Fr) (n : Nat) (Q : Exit → St → Prop) (e : Exit) (a : Act) (w : World) : Prop := ∃ σ μ, Q e σ ∧ StRep fr μ n σ a w

theorem VW_run : ∀ (c : Code) (Q : Exit → St → Prop) {μ : Nat → Option Pl} {w : World} {σ : St} {a : Act}, StRep fr μ n σ a w → VW P n c Q σ → c.wp P (QW fr n Q) a w := by
  intro c
  induction c with
  | skip => intro Q μ w σ a h hv; exact wp_skip ⟨σ, μ, hv, h⟩
  | region id ops draw =>
    intro Q μ w σ a h hv
    have hds : ∀ j t, gslot (ops.toList.map (·.dst)) j = some t → (ops[j]?).bind (·.dst) = some t := by
      intro j t ht
      unfold gslot at ht
      split at ht
      · rename_i t' hj
        cases ht
        rw [List.getElem?_map] at hj
        cases ho : ops.toList[j]? with
        | none => simp [ho] at hj
        | some o =>
          have ho' : ops[j]? = some o := by simpa using ho
          rw [ho] at hj
          rw [ho']
          simpa using hj
      · cases ht
    cases draw with
    | true => exact wp_region_any hv.1 (draw_run hds h.drawn hv.2 (fun σ' μ' a' w' hK hst => ⟨σ', μ', hK, hst⟩))
    | false => exact wp_region_list (VL_run hds _ _ h hv (fun σ' L' μ' a' w' hK hst => ⟨σ', μ', hK, hst⟩))
  | seq x y ihx ihy =>
    intro Q μ w σ a h hv
    refine wp_seq (Code.wp_mono (fun e a' w' hq => ?_) (ihx _ h hv))
    obtain ⟨σ', μ', hq, hst⟩ := hq
    cases e with
    | normal => exact ihy Q hst hq
    | _ => exact ⟨σ', μ', hq, hst⟩
  | cond c x y ihx ihy =>
    intro Q μ w σ a h hv
    simp only [VW] at hv
    split at hv
    · rename_i t hc
      have he := ev_rep h.slot c
      rw [hc] at he
      exact wp_cond_split he.bool_inv (fun ht => ihx Q h (hv.1 ht)) (fun ht => ihy Q h (hv.2 ht))
    · exact hv.elim
  | block id c ih =>
    intro Q μ w σ a h hv
    refine wp_block (Code.wp_mono (fun e a' w' hq => ?_) (ih _ h hv))
    obtain ⟨σ', μ', hq, hst⟩ := hq
    cases e with
    | exit j =>
      simp only [Exit.inBlock]
      simp only at hq
      split
      · rename_i hj; rw [if_pos hj] at hq; exact ⟨σ', μ', hq, hst⟩
      · rename_i hj; rw [if_neg hj] at hq; exact ⟨σ', μ', hq, hst⟩
    | _ => exact ⟨σ', μ', hq, hst⟩
  | loop c ih =>
    intro Q μ w σ a h hv
    intro b k cs
    have key := hv (fun σ => ∀ (μ : Nat → Option Pl) (w : World) (a : Act), StRep fr μ n σ a w → ∃ e a' w', QW fr n Q e a' w' ∧ Arrives P (lone (b.at a (.code c :: .inLoop c :: k)) cs w) b k cs e a' w') (by
      intro σ τ hle hstep μ w a h
      obtain ⟨μ0, h0⟩ := hle _ _ _ _ h
      obtain ⟨e, a1, w1, ⟨σ1, μ1, hq, hst⟩, harr⟩ := ih _ h0 hstep b (.inLoop c :: k) cs
      have out : ∀ (e : Exit), e ≠ .normal → QW fr n Q e a1 w1 → Arrives P (lone (b.at a (.code c :: .inLoop c :: k)) cs w) b (.inLoop c :: k) cs e a1 w1 →
          ∃ e a' w', QW fr n Q e a' w' ∧ Arrives P (lone (b.at a (.code c :: .inLoop c :: k)) cs w) b k cs e a' w' :=
        fun e hne hq ha => ⟨e, a1, w1, hq, .pass (x := .inLoop c) rfl (fun _ _ => .inl hne) ha⟩
      cases e with
      | normal =>
        obtain ⟨e2, a2, w2, hq2, harr2⟩ := hq μ1 w1 a1 hst
        exact ⟨e2, a2, w2, hq2, .of_steps (Steps.trans harr (.one step_inLoop)) harr2⟩
      | _ => exact out _ (by simp) ⟨σ1, μ1, hq, hst⟩ harr)
    obtain ⟨e, a', w', hq, harr⟩ := key μ w a h
    exact ⟨e, a', w', hq, .of_steps (.one step_loop) harr⟩
  | exit id => intro Q μ w σ a h hv; exact wp_exit ⟨σ, μ, hv, h⟩
  | ret => intro Q μ w σ a h hv; exact wp_ret ⟨σ, μ, hv, h⟩
  | _ => intro Q μ w σ a h hv; exact hv.elim
end

end Go.V
/- The value logic, part 14: contracts. Nothing is assumed. -/
set_option linter.unusedVariables false
set_option linter.unusedSimpArgs false
namespace Go.V
open Go.RowKit (Below)

def resV (P : Program) (σ : St) : List ResultVar → Option (List PV)
  | [] => some []
  | .tmp t :: r => match resV P σ r with
    | some l => some (σ.g t :: l)
    | none => none
  | .cell a t :: r => match ld P σ.k t (σ.g a), resV P σ r with
    | some v, some l => some (v :: l)
    | _, _ => none
def resP (l : List PV) : PV := match l with
  | [x] => x
  | l => .tup l

section
variable {P : Program} {fr : Fr} {μ : Nat → Option Pl} {w : World} {n : Nat} {σ : St} {a : Act}
theorem resV_run (h : StRep fr μ n σ a w) (f : ResultVar → Sem Value) (hf1 : ∀ t, f (.tmp t) = pure (a.tmps.getD t undef)) (hf2 : ∀ x t, f (.cell x t) = do loadVar t (← asAddr (a.tmps.getD x undef))) : ∀ (rs : List ResultVar) (l : List PV), resV P σ rs = some l →
    ∃ vs : List Value, (rs.mapM f).run P w = .ok vs w ∧ vs.length = l.length ∧ ∀ (i : Nat) (v : Value) (x : PV), vs[i]? = some v → l[i]? = some x → RepV w (Cold fr σ.k μ) μ v x
  | [], l, hl => by simp [resV] at hl; subst hl; exact ⟨[], rfl, rfl, by simp⟩
  | .tmp t :: r, l, hl => by
    simp only [resV] at hl
    split at hl
    · rename_i l' hl'
      cases hl
      obtain ⟨vs, hr, hlen, hrep⟩ := resV_run h f hf1 hf2 r l' hl'
      refine ⟨a.tmps.getD t undef :: vs, ?_, by simp [hlen], fun i v x hv hx => ?_⟩
      · simp only [List.mapM_cons, Sem.run_bind, Sem.run_pure, Result.andThen, hr, hf1]
      · cases i with
        | zero => simp at hv hx; subst hv; subst hx; have := h.slot t; rwa [Array.getD_eq_getD_getElem?] at this
        | succ i => exact hrep i v x (by simpa using hv) (by simpa using hx)
    · cases hl
  | .cell x t :: r, l, hl => by
    simp only [resV] at hl
    split at hl
    · rename_i y l' hy hl'
      cases hl
      obtain ⟨vs, hr, hlen, hrep⟩ := resV_run h f hf1 hf2 r l' hl'
      obtain ⟨u, hu, hur⟩ := run_ld (P := P) h.inv (h.slot x) hy
      have hv : ∃ ad, a.tmps.getD x undef = .pointer (some ad) := by
        unfold ld at hy
        cases hvw : view σ.k (σ.g x) with
        | none => simp [hvw] at hy
        | some q =>
          obtain ⟨xs, off⟩ := q
          obtain ⟨b, o, hv, _⟩ := view_rep h.inv (h.slot x) hvw
          exact ⟨_, hv⟩
      obtain ⟨ad, had⟩ := hv
      rw [had] at hu
      simp only [Instr.loadAt, Instr.sureAddr, Sem.run_bind, Sem.run_pure, Result.andThen] at hu
      have hfx : (f (.cell x t)).run P w = .ok u w := by
        rw [hf2, had]
        simp only [asAddr, Sem.run_bind, Sem.run_pure, Result.andThen, hu]
      refine ⟨u :: vs, ?_, by simp [hlen], fun i v z hv hz => ?_⟩
      · simp only [List.mapM_cons, Sem.run_bind, Sem.run_pure, Result.andThen, hfx, hr]
      · cases i with
        | zero => simp at hv hz; subst hv; subst hz; exact hur
        | succ i => exact hrep i v z (by simpa using hv) (by simpa using hz)
    · cases hl
theorem results_run (h : StRep fr μ n σ a w) {fn : Func} {l : List PV} (hl : resV P σ fn.results.toList = some l) : ∃ v, (results fn a.tmps).run P w = .ok v w ∧ RepV w (Cold fr σ.k μ) μ v (resP l) := by
  obtain ⟨vs, hr, hlen, hrep⟩ := resV_run h (fun | .tmp t => pure (a.tmps.getD t undef) | .cell x t => do loadVar t (← asAddr (a.tmps.getD x undef))) (fun _ => rfl) (fun _ _ => rfl) _ _ hl
  refine ⟨if h : vs.toArray.size = 1 then vs.toArray[0] else .tuple vs.toArray, ?_, ?_⟩
  · unfold results
    rw [Sem.run_bind, Array.mapM_eq_mapM_toList, map_eq_pure_bind, Sem.run_bind]
    erw [hr]
    rfl
  · cases l with
    | nil =>
      have : vs = [] := List.eq_nil_of_length_eq_zero hlen
      subst this
      exact .tup _ _ rfl (by simp)
    | cons x l => cases l with
      | nil =>
        obtain ⟨v, rfl⟩ : ∃ v, vs = [v] := by
          cases vs with
          | nil => simp at hlen
          | cons v vs => cases vs with
            | nil => exact ⟨v, rfl⟩
            | cons v' vs => simp at hlen
        exact hrep 0 v x rfl rfl
      | cons y l =>
        rw [dif_neg (by simp [hlen])]
        exact .tup _ _ (by simpa using hlen) (fun i v x hv hx => hrep i v x (by simpa using hv) hx)
end

/-- How a function ends. -/
def FinV (P : Program) (fn : Func) (r : PV) (e : Exit) (σ : St) : Prop := (match e with | .normal | .ret => True | _ => False) ∧ match resV P σ fn.results.toList with
  | some l => roS 4 σ.k (resP l) = r
  | none => False
/-- The state in which a function begins. -/
def St.init (args : List PV) : St := ⟨fun i => args.getD i (.und .any), fun _ => .fresh⟩

theorem VF.intro {P : Program} {f : FuncId} {fn : Func} {c : Code} {args : List PV} {r : PV} (hf : P.funcs[f]? = some fn) (hb : fn.body = some c) (hok : fnOk P f = true) (hn : args.length ≤ fn.ntmps)
    (h : VW P fn.ntmps c (FinV P fn r) (.init args)) : VF P f args r := by
  refine ⟨hok, fun w S vs hl hr => ?_⟩
  let fr : Fr := ⟨w, S, []⟩
  have h0 : StRep fr (fun _ => none) fn.ntmps (.init args) { tmps := vs ++ Array.replicate (fn.ntmps - vs.size) undef, defers := [] } w := by
    refine ⟨⟨rfl, rfl, rfl, Nat.le_refl _, fun _ _ _ => rfl, fun t => by simp [St.init], fun t tk hk => (by cases hk), fun t tk b hk => (by cases hk), fun t t' tk tk' b hk => (by cases hk), fun t hk => (by cases hk)⟩, by simp; omega, rfl, fun i => ?_⟩
    simp only [St.init]
    by_cases hi : i < vs.size
    · have h1 : (vs ++ Array.replicate (fn.ntmps - vs.size) undef).getD i undef = vs[i] := by
        rw [Array.getD_eq_getD_getElem?, Array.getElem?_append_left hi, Array.getElem?_eq_getElem hi]; rfl
      have h2 : args.getD i (.und .any) = args[i] := by simp [List.getD, List.getElem?_eq_getElem (show i < args.length by omega)]
      rw [h1, h2]
      refine .base _ _ ((hr i _ _ (Array.getElem?_eq_getElem hi) (List.getElem?_eq_getElem (by omega))).mono (fun a v hc hv => ⟨⟨fun _ => .inr hc, fun t tk b hk => (by cases hk)⟩, hv⟩))
    · have h1 : (vs ++ Array.replicate (fn.ntmps - vs.size) undef).getD i undef = undef := by
        rw [Array.getD_eq_getD_getElem?, Array.getElem?_append_right (by omega)]
        by_cases hj : i - vs.size < fn.ntmps - vs.size
        · rw [Array.getElem?_replicate, if_pos hj]; rfl
        · rw [Array.getElem?_replicate, if_neg hj]; rfl
      have h2 : args.getD i (.und .any) = .und .any := by simp [List.getD, List.getElem?_eq_none (show args.length ≤ i by omega)]
      rw [h1, h2]
      exact .und _
  have hw := VW_run c (FinV P fn r) h0 h
  refine calls_of_wp hf hb (Code.wp_mono (fun e a' w' hq => ?_) hw)
  obtain ⟨σ', μ', ⟨he, hres⟩, hst⟩ := hq
  split at hres
  · rename_i l hl'
    obtain ⟨v, hrun, hrep⟩ := results_run hst hl'
    have hin := hst.inv
    have hbel : Below w.heap.size w w' := ⟨hin.os, hin.tape, hin.output, hin.size, fun b hb => hin.old b hb (by simp [fr])⟩
    have hro := roS_rep hin (fun _ => True) 4 hrep (fun _ _ => trivial)
    rw [hres] at hro
    have hfin : Rep0 w' (fun a => a.block < w.heap.size → S a) v r := hro.mono (fun a u hc hv => ⟨fun hlt => by
      rcases hc with hc | ⟨t, tk, b, _, hk, hm, hab, _⟩
      · rcases hc.1 hlt with h1 | h1
        · cases h1
        · exact h1
      · rcases hin.place t tk b hk hm with h1 | h1
        · cases h1
        · have : w.heap.size ≤ b := h1
          omega, hv⟩)
    cases e with
    | normal => exact ⟨hst.defers, v, hrun, v, rfl, hbel, hfin⟩
    | ret => exact ⟨hst.defers, v, hrun, v, rfl, hbel, hfin⟩
    | _ => exact he.elim
  · exact hres.elim

/-! ### More is told -/
theorem VW_mono {P : Program} {n : Nat} (c : Code) : ∀ (Q Q' : Exit → St → Prop), (∀ e σ, Q e σ → Q' e σ) → ∀ σ, VW P n c Q σ → VW P n c Q' σ := by
  induction c with
  | skip => exact fun Q Q' hq σ h => hq _ _ h
  | region id ops draw =>
    intro Q Q' hq σ h
    cases draw with
    | true => exact ⟨h.1, VL_mono _ _ (fun σ L hh => ⟨hh.1, hq _ _ hh.2⟩) h.2⟩
    | false => exact VL_mono _ _ (fun σ L => hq _ _) h
  | seq x y ihx ihy =>
    intro Q Q' hq σ h
    refine ihx _ _ (fun e σ' h => ?_) _ h
    cases e with
    | normal => exact ihy _ _ hq _ h
    | _ => exact hq _ _ h
  | cond c x y ihx ihy =>
    intro Q Q' hq σ h
    simp only [VW] at h ⊢
    split at h
    · exact ⟨fun ht => ihx _ _ hq _ (h.1 ht), fun ht => ihy _ _ hq _ (h.2 ht)⟩
    · exact h
  | block id c ih =>
    intro Q Q' hq σ h
    refine ih _ _ (fun e σ' h => ?_) _ h
    cases e with
    | exit j =>
      simp only at h ⊢
      split at h
      · rename_i hj; rw [if_pos hj]; exact hq _ _ h
      · rename_i hj; rw [if_neg hj]; exact hq _ _ h
    | _ => exact hq _ _ h
  | loop c ih =>
    intro Q Q' hq σ h X hX
    refine h X (fun σ τ hle hv => hX σ τ hle (ih _ _ (fun e σ' h => ?_) _ hv))
    cases e with
    | normal => exact h
    | _ => exact hq _ _ h
  | exit id => exact fun Q Q' hq σ h => hq _ _ h
  | ret => exact fun Q Q' hq σ h => hq _ _ h
  | _ => exact fun Q Q' hq σ h => h.elim

/-! ### Loops -/
def mkSt (g : List (Nat × PV)) (k : List (Nat × Tok)) : St := ⟨mkG g, mkK k⟩
/-- All names go: slots without names stay. -/
theorem Le.pure {n : Nat} {σ : St} (g : List (Nat × PV)) (h : ∀ p ∈ g, σ.g p.1 = p.2 ∧ p.2.pure = true) : Le n σ (mkSt g []) := by
  intro fr μ a w hst
  have hc : ∀ a v, Cold fr σ.k μ a → w.cell? a = some v → Cold fr (mkSt g []).k (fun _ => none) a := fun a v hc _ => ⟨hc.1, fun t tk b hk => (by cases hk)⟩
  refine ⟨fun _ => none, ⟨⟨hst.inv.os, hst.inv.tape, hst.inv.output, hst.inv.size, hst.inv.old, fun t => by simp [mkSt, mkK], fun t tk hk => (by cases hk), fun t tk b hk => (by cases hk), fun t t' tk tk' b hk => (by cases hk), fun t hk => (by cases hk)⟩, hst.size, hst.defers, fun i => ?_⟩⟩
  have key : ∀ g : List (Nat × PV), (∀ p ∈ g, σ.g p.1 = p.2 ∧ p.2.pure = true) → RepV w (Cold fr (mkSt g []).k fun _ => none) (fun _ => none) (a.tmps.getD i undef) (mkG g i) := by
    intro g
    induction g with
    | nil => intro _; exact .any' _
    | cons p g ih =>
      intro h
      obtain ⟨s, x⟩ := p
      simp only [mkG]
      by_cases e : i = s
      · rw [if_pos e]
        obtain ⟨h1, h2⟩ := h _ List.mem_cons_self
        subst e
        have := hst.slot i
        simp only at h1
        rw [h1] at this
        exact pure_rep (fun a v hc _ => ⟨hc.1, fun t tk b hk => (by cases hk)⟩) this h2
      · rw [if_neg e]; exact ih (fun p hp => h p (List.mem_cons_of_mem _ hp))
  exact key g h

/-- A loop whose names all go at the end of a round. -/
theorem VW_loop {P : Program} {n : Nat} {c : Code} {Q : Exit → St → Prop} {σ : St} {ι : Type} (I : ι → Prop) (m : ι → Nat) (s : ι → St) (i0 : ι) (hI : I i0) (h0 : Le n σ (s i0))
    (hs : ∀ i, I i → VW P n c (fun e σ' => match e with | .normal => ∃ i', I i' ∧ m i' < m i ∧ Le n σ' (s i') | e => Q e σ') (s i)) : VW P n (.loop c) Q σ := by
  intro X hX
  have key : ∀ (j : Nat) (i : ι), m i = j → I i → ∀ σ, Le n σ (s i) → X σ := by
    intro j
    induction j using Nat.strongRecOn with
    | _ j ih =>
      intro i hj hi σ hle
      refine hX σ (s i) hle (VW_mono c _ _ (fun e σ' hq => ?_) _ (hs i hi))
      cases e with
      | normal => obtain ⟨i', h1, h2, h3⟩ := hq; exact ih _ (hj ▸ h2) i' rfl h1 σ' h3
      | _ => exact hq
  exact key _ i0 rfl hI σ h0
/-- A loop's first round. -/
theorem VW_unroll {P : Program} {n : Nat} {c : Code} {Q : Exit → St → Prop} {σ : St} (h : VW P n c (fun e σ' => match e with | .normal => VW P n (.loop c) Q σ' | e => Q e σ') σ) : VW P n (.loop c) Q σ := by
  intro X hX
  refine hX σ σ (Le.refl n σ) (VW_mono c _ _ (fun e σ' hq => ?_) _ h)
  cases e with
  | normal => exact hq X hX
  | _ => exact hq

end Go.V
/- The value logic, part 19: at a loop's head names are renamed, and what is not told is forgotten. Nothing is assumed. -/
set_option linter.unusedVariables false
set_option linter.unusedSimpArgs false
namespace Go.V
open Go.RowKit (Below)

section
variable {fr : Fr} {μ : Nat → Option Pl} {k : Nat → TS} {w : World} {n : Nat} {K : Nms}
/-- Less is told: new names for old ones. -/
def mkT (g : List (Nat × PV)) (K : Nms) : St := ⟨mkG g, K.k⟩
theorem Le.to {σ : St} (g : List (Nat × PV)) (K : Nms) (hg : ∀ p ∈ g, ren K p.2 = some (σ.g p.1)) (hK : K.ok σ.k) (hj : K.inj = true) : Le n σ (mkT g K) := by
  intro fr μ a w hst
  refine ⟨K.μ μ, ⟨Nms.inv hst.inv hK hj, hst.size, hst.defers, fun i => ?_⟩⟩
  have key : ∀ g : List (Nat × PV), (∀ p ∈ g, ren K p.2 = some (σ.g p.1)) → RepV w (Cold fr K.k (K.μ μ)) (K.μ μ) (a.tmps.getD i undef) (mkG g i) := by
    intro g
    induction g with
    | nil => intro _; exact .any' _
    | cons p g ih =>
      intro h
      obtain ⟨s, x⟩ := p
      simp only [mkG]
      by_cases e : i = s
      · rw [if_pos e]
        subst e
        exact ren_rep (fun a v ha _ => Nms.cold hst.inv hK ha) (h _ List.mem_cons_self) (hst.slot i)
      · rw [if_neg e]; exact ih (fun p hp => h p (List.mem_cons_of_mem _ hp))
  exact key g hg
end

theorem mkT_eq (g : List (Nat × PV)) (K : Nms) : mkT g K = mkSt g (K.map fun p => (p.1, p.2.2)) := by
  simp only [mkT, mkSt, Nms.k_mk]
/-- Less is told, as it is reckoned: slots, and names with their sources. -/
def LeP (σ : St) (g : List (Nat × PV)) (k : List (Nat × Tok)) (src : List (Option Nat)) : Prop :=
  src.length = k.length ∧ (∀ p ∈ g, ren ((k.zip src).map fun q => (q.1.1, q.2, q.1.2)) p.2 = some (σ.g p.1)) ∧ Nms.ok ((k.zip src).map fun q => (q.1.1, q.2, q.1.2)) σ.k ∧ Nms.inj ((k.zip src).map fun q => (q.1.1, q.2, q.1.2)) = true
theorem LeP.le {n : Nat} {σ : St} {g : List (Nat × PV)} {k : List (Nat × Tok)} {src : List (Option Nat)} (h : LeP σ g k src) : Le n σ (mkSt g k) := by
  obtain ⟨h0, h1, h2, h3⟩ := h
  have := Le.to (n := n) g ((k.zip src).map fun q => (q.1.1, q.2, q.1.2)) h1 h2 h3
  rw [mkT_eq, List.map_map] at this
  have e : ((k.zip src).map ((fun p : Nat × Option Nat × Tok => (p.1, p.2.2)) ∘ fun q => (q.1.1, q.2, q.1.2))) = k := by
    clear this h1 h2 h3
    induction k generalizing src with
    | nil => simp
    | cons p k ih =>
      cases src with
      | nil => simp at h0
      | cons x src =>
        simp only [List.zip_cons_cons, List.map_cons, Function.comp]
        congr 1
        exact ih (by simpa using h0)
  rwa [e] at this
/-- A loop: 'I' holds at its head, 'm' falls, 'g' and 'k' tell slots and names. -/
theorem VW_for {P : Program} {n : Nat} {c : Code} {Q : Exit → St → Prop} {σ : St} {ι : Type} (I : ι → Prop) (m : ι → Nat) (g : ι → List (Nat × PV)) (k : ι → List (Nat × Tok)) (i0 : ι) (src : List (Option Nat)) (hI : I i0) (h0 : LeP σ (g i0) (k i0) src)
    (hs : ∀ i, I i → VW P n c (fun e σ' => match e with | .normal => ∃ i' src, I i' ∧ m i' < m i ∧ LeP σ' (g i') (k i') src | e => Q e σ') (mkSt (g i) (k i))) : VW P n (.loop c) Q σ := by
  refine VW_loop I m (fun i => mkSt (g i) (k i)) i0 hI h0.le (fun i hi => VW_mono c _ _ (fun e σ' hq => ?_) _ (hs i hi))
  cases e with
  | normal => obtain ⟨i', src, h1, h2, h3⟩ := hq; exact ⟨i', h1, h2, h3.le⟩
  | _ => exact hq

/-! ### Functions that are lent rows, or give some -/
/-- How such a function ends. -/
def FinX (P : Program) (fn : Func) (r : PV) (K1 : List (Nat × Tok)) (e : Exit) (σ : St) : Prop := (match e with | .normal | .ret => True | _ => False) ∧ match resV P σ fn.results.toList with
  | some l => ∃ M : Nms, ren M r = some (resP l) ∧ M.ok σ.k ∧ M.inj = true ∧ (M.map fun p => (p.1, p.2.2)) = K1
  | none => False
theorem VX.intro {P : Program} {f : FuncId} {fn : Func} {c : Code} {K0 K1 : List (Nat × Tok)} {args : List PV} {r : PV} (hf : P.funcs[f]? = some fn) (hb : fn.body = some c) (hok : fnOk P f = true) (hn : args.length ≤ fn.ntmps)
    (h : VW P fn.ntmps c (FinX P fn r K1) ⟨(St.init args).g, mkK K0⟩) : VX P f K0 args r K1 := by
  refine ⟨hok, fun w S lent μ vs hinv hl hr => ?_⟩
  have h0 : StRep ⟨w, S, lent⟩ μ fn.ntmps ⟨(St.init args).g, mkK K0⟩ { tmps := vs ++ Array.replicate (fn.ntmps - vs.size) undef, defers := [] } w := by
    refine ⟨hinv, by simp; omega, rfl, fun i => ?_⟩
    simp only [St.init]
    by_cases hi : i < vs.size
    · have h1 : (vs ++ Array.replicate (fn.ntmps - vs.size) undef).getD i undef = vs[i] := by
        rw [Array.getD_eq_getD_getElem?, Array.getElem?_append_left hi, Array.getElem?_eq_getElem hi]; rfl
      have h2 : args.getD i (.und .any) = args[i] := by simp [List.getD, List.getElem?_eq_getElem (show i < args.length by omega)]
      rw [h1, h2]
      exact hr i _ _ (Array.getElem?_eq_getElem hi) (List.getElem?_eq_getElem (by omega))
    · have h1 : (vs ++ Array.replicate (fn.ntmps - vs.size) undef).getD i undef = undef := by
        rw [Array.getD_eq_getD_getElem?, Array.getElem?_append_right (by omega)]
        by_cases hj : i - vs.size < fn.ntmps - vs.size
        · rw [Array.getElem?_replicate, if_pos hj]; rfl
        · rw [Array.getElem?_replicate, if_neg hj]; rfl
      have h2 : args.getD i (.und .any) = .und .any := by simp [List.getD, List.getElem?_eq_none (show args.length ≤ i by omega)]
      rw [h1, h2]
      exact .und _
  have hw := VW_run c (FinX P fn r K1) h0 h
  refine calls_of_wp hf hb (Code.wp_mono (fun e a' w' hq => ?_) hw)
  obtain ⟨σ', μ', ⟨he, hres⟩, hst⟩ := hq
  split at hres
  · rename_i l hl'
    obtain ⟨M, hren, hok, hj, hM⟩ := hres
    obtain ⟨v, hrun, hrep⟩ := results_run hst hl'
    have hin := Nms.inv hst.inv hok hj
    have hr' := ren_rep (C' := Cold ⟨w, S, lent⟩ M.k (M.μ μ')) (fun a v ha _ => Nms.cold hst.inv hok ha) hren hrep
    rw [Nms.k_mk, hM] at hin hr'
    cases e with
    | normal => exact ⟨hst.defers, v, hrun, v, M.μ μ', rfl, hin, hr'⟩
    | ret => exact ⟨hst.defers, v, hrun, v, M.μ μ', rfl, hin, hr'⟩
    | _ => exact he.elim
  · exact hres.elim

end Go.V
/- The value logic, part 15: rules by which contracts are reckoned (printed by gen15.py). Nothing is assumed. -/
set_option linter.unusedVariables false
set_option linter.unusedSimpArgs false
namespace Go.V

/-- A mark: what it names is left as it is while the rest is reckoned. -/
structure Tg {α : Sort _} (x : α) : Type where
def seqQ (P : Program) (n : Nat) (y : Code) (Q : Exit → St → Prop) : Exit → St → Prop := fun e σ' => match e with | .normal => VW P n y Q σ' | e => Q e σ'
def blockQ (id : Nat) (Q : Exit → St → Prop) : Exit → St → Prop := fun e σ' => match e with | .exit j => if j = id then Q .normal σ' else Q (.exit j) σ' | e => Q e σ'
def condK (A B : Prop) (x : PV) (_t : Tg (A ∧ B) := .mk) : Prop := match x with | .bool t => (t = true → A) ∧ (t = false → B) | _ => False
/-- Lists of operations without a log. -/
def VLn (P : Program) (n : Nat) (ds : List (Option Tmp)) : Nat → List Oper → St → (St → Prop) → Prop
  | _, [], σ, K => K σ
  | nb, o :: r, σ, K => VO P n ds nb o σ fun σ' _ => VLn P n ds (nb + 1) r σ' K
theorem VL_n {P : Program} {n : Nat} {ds : List (Option Tmp)} {K : St → Prop} : ∀ (l : List Oper) (nb : Nat) (σ : St) (L : List Fp), VL P n ds nb l σ L (fun σ' _ => K σ') = VLn P n ds nb l σ K
  | [], _, _, _ => rfl
  | o :: r, nb, σ, L => by
    simp only [VL, VLn]
    congr 1
    funext σ' f
    exact VL_n r (nb + 1) σ' (f :: L)
def gK (ds : List (Option Tmp)) (gd : Option (Nat × Bool)) (σ : St) (F : Bool → List Nat → Prop) (_t : Tg F := .mk) : Prop := match gd with
  | none => F true []
  | some (j, w) => match gslot ds j with
    | some t => isB (σ.g t) = true ∧ F (gb w (σ.g t)) [t]
    | none => False
/-- What an operation reads and writes, its guard with it. -/
def fpO (pre : List Nat) (σ : St) (op : Op) : Fp := ⟨pre ++ op.operands.toList.flatMap slotOf, vopNm σ op, []⟩
def fpE (pre : List Nat) (f : Fp) : Fp := ⟨pre ++ f.ins, f.rd, f.wr⟩
def vk (o : Option PV) (F : PV → Prop) (_t : Tg F := .mk) : Prop := match o with | some v => F v | none => False
/-- The same under a guard: where it does not hold, nothing is asked. -/
def gvk (g : Bool) (o : Option PV) (F : PV → Prop) (_t : Tg F := .mk) : Prop := match o with | some v => F v | none => g = false ∧ F .any
/-- A call that is told by hand. -/
def esC (P : Program) (σ : St) (g : Bool) (c : Call) (K : PV → (Nat → TS) → Fp → Prop) : Prop := g = true ∧ ∃ v k f, Esc P σ (.call c) v k f ∧ (∀ s ∈ c.operands.toList.flatMap slotOf, s ∈ f.ins) ∧ K v k f
/-- An operation that is told by hand. -/
def escK (P : Program) (σ : St) (op : Op) (K : PV → (Nat → TS) → Fp → Prop) (_t : Tg (σ, op, K) := .mk) : Prop := EscK P σ op K
theorem escK_of {P : Program} {σ : St} {op : Op} {K : PV → (Nat → TS) → Fp → Prop} {v : PV} {k : Nat → TS} {f : Fp} (h : Esc P σ op v k f) (hK : K v k f) : escK P σ op K := ⟨v, k, f, h, hK⟩
def escA (P : Program) (σ : St) (s : Operand) (op : Op) (K : PV → (Nat → TS) → Fp → Prop) (_t : Tg (σ, s, op, K) := .mk) : Prop := EscA P σ s op K
theorem escA_of {P : Program} {σ : St} {s : Operand} {op : Op} {K : PV → (Nat → TS) → Fp → Prop} {v : PV} {k : Nat → TS} {f : Fp} {tk sz lo n : Nat} (hs : (σ.ev s).strip = .ref tk sz lo n) (ha : isArr (σ.k tk) = true) (h : Esc P σ op v k f) (h2 : (∀ i ∈ slotOf s, i ∈ f.ins) ∧ tk ∈ f.rd ++ f.wr) (hK : K v k f) : escA P σ s op K := by
  unfold escA EscA; rw [hs]; exact ⟨ha, v, k, f, h, h2, hK⟩
def callK (P : Program) (f : FuncId) (xs as : List PV) (deps ins : List Nat) (g : Bool) (k : Nat → TS) (K : PV → (Nat → TS) → Fp → Prop) (Es : Prop) (_t : Tg (k, K, Es) := .mk) : Prop :=
  (∃ r, (g = true → VF P f as r) ∧ (if r.flat || deps.isEmpty then K (.mk g r) k ⟨ins, deps, []⟩ else g = true ∧ K r (frz deps k) ⟨ins, [], deps⟩)) ∨
  (∃ (M : Nms) (D : List Nat) (as : List PV) (r : PV) (K1 : List (Nat × Tok)), (g = true ∧ argsX M k D xs as ∧ M.ok k ∧ M.inj = true ∧ M.wrs = true ∧ (∀ t ∈ D, t ∉ M.lo) ∧ (∀ p ∈ K1, k p.1 = .fresh) ∧ VX P f (M.map fun p => (p.1, p.2.2)) as r K1) ∧ K r (aft M D K1 k) ⟨ins, [], M.lo ++ D ++ K1.map (·.1)⟩) ∨ Es
section
variable {P : Program} {f : FuncId} {xs as : List PV} {deps ins : List Nat} {g : Bool} {k : Nat → TS} {K : PV → (Nat → TS) → Fp → Prop} {r : PV} {Es : Prop}
theorem callK_of (h : VF P f as r) (hk : if r.flat || deps.isEmpty then K (.mk g r) k ⟨ins, deps, []⟩ else g = true ∧ K r (frz deps k) ⟨ins, [], deps⟩) : callK P f xs as deps ins g k K Es := .inl ⟨r, fun _ => h, hk⟩
theorem callK_if (h : g = true → VF P f as r) (hk : if r.flat || deps.isEmpty then K (.mk g r) k ⟨ins, deps, []⟩ else g = true ∧ K r (frz deps k) ⟨ins, [], deps⟩) : callK P f xs as deps ins g k K Es := .inl ⟨r, h, hk⟩
theorem callK_x {K0 : List (Nat × Tok)} {as' : List PV} {K1 : List (Nat × Tok)} (M : Nms) (D : List Nat) (h : VX P f K0 as' r K1) (h0 : (M.map fun p => (p.1, p.2.2)) = K0) (ha : argsX M k D xs as') (hM : M.ok k) (hj : M.inj = true) (hw : M.wrs = true) (hD : ∀ t ∈ D, t ∉ M.lo) (hf : ∀ p ∈ K1, k p.1 = .fresh)
    (hk : K r (aft M D K1 k) ⟨ins, [], M.lo ++ D ++ K1.map (·.1)⟩) : callK P f xs as deps ins true k K Es := .inr (.inl ⟨M, D, as', r, K1, ⟨rfl, ha, hM, hj, hw, hD, hf, h0 ▸ h⟩, hk⟩)
theorem callK_esc (h : Es) : callK P f xs as deps ins g k K Es := .inr (.inr h)
end
def aftc (x : TS) : TS → TS | .live tk => .live tk | _ => x
@[go_sem] theorem aft_at (M : Nms) (D : List Nat) (K1 : List (Nat × Tok)) (k : Nat → TS) (t : Nat) : aft M D K1 k t = aftc (if t ∈ M.lo then .dead else frz D k t) (mkK K1 t) := by
  unfold aft aftc; cases mkK K1 t <;> rfl
@[go_sem] theorem aftc_live (x : TS) (tk : Tok) : aftc x (.live tk) = .live tk := Eq.trans rfl rfl
@[go_sem] theorem aftc_fresh (x : TS) : aftc x .fresh = x := Eq.trans rfl rfl
/-- The function that is called, and all that it is handed. -/
def fnK (F : FuncId → List PV → Prop) (x : PV) (_t : Tg F := .mk) : Prop := match x with | .fn f caps => F f caps | _ => False
def freshK : TS → Prop | .fresh => True | _ => False
/-- Memory is made or written only where the guard says so. -/
def geK (g : Bool) (A B : Prop) (_t : Tg (A ∧ B) := .mk) : Prop := (g = true → A) ∧ (g = false → B)
/-- The order does not matter. -/
def drawK (ops : List Oper) (L : List Fp) (X : Prop) (_t : Tg (ops, L, X) := .mk) : Prop := drawOk ops L.reverse = true ∧ X
theorem drawK_of {ops : List Oper} {L : List Fp} {X : Prop} (h : drawOk ops L.reverse = true) (hX : X) : drawK ops L X := ⟨h, hX⟩
section
variable {P : Program} {n : Nat} {Q : Exit → St → Prop} {σ : St}
@[go_sem ↓] theorem VW_skip : VW P n .skip Q σ = Q .normal σ := Eq.trans rfl rfl
@[go_sem ↓] theorem VW_region {id : Nat} {ops : Array Oper} : VW P n (.region id ops false) Q σ = VLn P n (ops.toList.map (·.dst)) (1000 * (id + 1)) ops.toList σ fun σ' => Q .normal σ' := VL_n _ _ _ _
@[go_sem ↓] theorem VW_draw {id : Nat} {ops : Array Oper} : VW P n (.region id ops true) Q σ = (P.follows .mixedOrders = true ∧ VL P n (ops.toList.map (·.dst)) (1000 * (id + 1)) ops.toList σ [] fun σ' L => drawK ops.toList L (Q .normal σ')) := Eq.trans rfl rfl
@[go_sem ↓] theorem VW_seq {x y : Code} : VW P n (.seq x y) Q σ = VW P n x (seqQ P n y Q) σ := Eq.trans rfl rfl
@[go_sem ↓] theorem VW_cond {c : Operand} {x y : Code} : VW P n (.cond c x y) Q σ = condK (VW P n x Q σ) (VW P n y Q σ) (σ.ev c) := by
  cases hx : σ.ev c <;> simp only [VW, condK, hx]
@[go_sem ↓] theorem VW_block {id : Nat} {c : Code} : VW P n (.block id c) Q σ = VW P n c (blockQ id Q) σ := Eq.trans rfl rfl
def loopK (P : Program) (n : Nat) (c : Code) (Q : Exit → St → Prop) (σ : St) (_t : Tg (c, Q, σ) := .mk) : Prop := VW P n (.loop c) Q σ
@[go_sem ↓] theorem VW_loopK {c : Code} : VW P n (.loop c) Q σ = loopK P n c Q σ := Eq.trans rfl rfl
@[go_sem ↓] theorem VW_exit {id : Nat} : VW P n (.exit id) Q σ = Q (.exit id) σ := Eq.trans rfl rfl
@[go_sem ↓] theorem VW_ret : VW P n .ret Q σ = Q .ret σ := Eq.trans rfl rfl
@[go_sem ↓] theorem seqQ_normal {y : Code} : seqQ P n y Q .normal σ = VW P n y Q σ := Eq.trans rfl rfl
@[go_sem ↓] theorem seqQ_ret {y : Code} : seqQ P n y Q .ret σ = Q .ret σ := Eq.trans rfl rfl
@[go_sem ↓] theorem seqQ_exit {y : Code} {i : Nat} : seqQ P n y Q (.exit i) σ = Q (.exit i) σ := Eq.trans rfl rfl
@[go_sem ↓] theorem blockQ_normal {i : Nat} : blockQ i Q .normal σ = Q .normal σ := Eq.trans rfl rfl
@[go_sem ↓] theorem blockQ_ret {i : Nat} : blockQ i Q .ret σ = Q .ret σ := Eq.trans rfl rfl
@[go_sem ↓] theorem blockQ_exit {i j : Nat} : blockQ i Q (.exit j) σ = if j = i then Q .normal σ else Q (.exit j) σ := Eq.trans rfl rfl
@[go_sem ↓] theorem condK_bool {A B : Prop} {t : Bool} : condK A B (.bool t) = ((t = true → A) ∧ (t = false → B)) := Eq.trans rfl rfl
@[go_sem ↓] theorem VLn_nil {ds : List (Option Tmp)} {nb : Nat} {K : St → Prop} : VLn P n ds nb [] σ K = K σ := Eq.trans rfl rfl
@[go_sem ↓] theorem VLn_cons {ds : List (Option Tmp)} {nb : Nat} {o : Oper} {r : List Oper} {K : St → Prop} : VLn P n ds nb (o :: r) σ K = VO P n ds nb o σ fun σ' _ => VLn P n ds (nb + 1) r σ' K := Eq.trans rfl rfl
@[go_sem ↓] theorem VL_nil {ds : List (Option Tmp)} {nb : Nat} {L : List Fp} {K : St → List Fp → Prop} : VL P n ds nb [] σ L K = K σ L := Eq.trans rfl rfl
@[go_sem ↓] theorem VL_cons {ds : List (Option Tmp)} {nb : Nat} {o : Oper} {r : List Oper} {L : List Fp} {K : St → List Fp → Prop} : VL P n ds nb (o :: r) σ L K = VO P n ds nb o σ fun σ' f => VL P n ds (nb + 1) r σ' (f :: L) K := Eq.trans rfl rfl
end
@[go_sem ↓] theorem gK_none (ds : List (Option Tmp)) (σ : St) (F : Bool → List Nat → Prop) : gK ds none σ F = F true [] := Eq.trans rfl rfl
@[go_sem ↓] theorem gK_some (ds : List (Option Tmp)) (j : Nat) (w : Bool) (σ : St) (F : Bool → List Nat → Prop) : gK ds (some (j, w)) σ F = (match gslot ds j with | some t => isB (σ.g t) = true ∧ F (gb w (σ.g t)) [t] | none => False) := Eq.trans rfl rfl
@[go_sem] theorem gslot_zero (t : Tmp) (r : List (Option Tmp)) : gslot (some t :: r) 0 = some t := Eq.trans rfl rfl
@[go_sem] theorem gslot_succ (x : Option Tmp) (r : List (Option Tmp)) (j : Nat) : gslot (x :: r) (j + 1) = gslot r j := by simp [gslot]
@[go_sem ↓] theorem vk_some (v : PV) (F : PV → Prop) : vk (some v) F = F v := Eq.trans rfl rfl
@[go_sem ↓] theorem vk_none (F : PV → Prop) : vk none F = False := Eq.trans rfl rfl
@[go_sem ↓] theorem gvk_some (g : Bool) (v : PV) (F : PV → Prop) : gvk g (some v) F = F v := Eq.trans rfl rfl
@[go_sem ↓] theorem gvk_true (o : Option PV) (F : PV → Prop) : gvk true o F = vk o F := by cases o <;> simp [gvk, vk]
/-- What nobody looks at. -/
def opq (o : Option PV) : PV := o.getD .any
@[go_sem ↓] theorem gvk_false (o : Option PV) (F : PV → Prop) : gvk false o F = F (opq o) := by cases o <;> simp [gvk, opq]
@[go_sem ↓] theorem opq_none : opq none = .any := Eq.trans rfl rfl
@[go_sem] theorem vk_ite (c : Prop) [Decidable c] (a b : Option PV) (F : PV → Prop) : vk (if c then a else b) F = if c then vk a F else vk b F := by split <;> rfl
@[go_sem] theorem vk_map (o : Option PV) (f : PV → PV) (F : PV → Prop) : vk (o.map f) F = vk o fun v => F (f v) := by cases o <;> rfl
theorem i64w (n : Int) (h : -9223372036854775808 ≤ n ∧ n ≤ 9223372036854775807) : IntKind.i64.wrap n = n := IntWalk.i64_in n h
theorem u64w (n : Int) (h : 0 ≤ n ∧ n ≤ 18446744073709551615) : IntKind.u64.wrap n = n := IntWalk.u64_in n h
@[go_sem ↓] theorem fnK_fn (F : FuncId → List PV → Prop) (f : FuncId) (caps : List PV) : fnK F (.fn f caps) = F f caps := Eq.trans rfl rfl
@[go_sem] theorem freshK_fresh : freshK .fresh = True := Eq.trans rfl rfl
@[go_sem ↓] theorem geK_true (A B : Prop) : geK true A B = A := by simp [geK]
@[go_sem ↓] theorem geK_false (A B : Prop) : geK false A B = B := by simp [geK]
/- slots -/
@[go_sem ↓] theorem g_put (σ : St) (d i : Nat) (x : PV) : (σ.put (some d) x).g i = if i = d then x else σ.g i := Eq.trans rfl rfl
@[go_sem] theorem k_put (σ : St) (d : Option Tmp) (x : PV) : (σ.put d x).k = σ.k := by cases d <;> rfl
@[go_sem] theorem put_none (σ : St) (x : PV) : σ.put none x = σ := Eq.trans rfl rfl
@[go_sem] theorem k_mk' (g : Nat → PV) (k : Nat → TS) : (St.mk g k).k = k := Eq.trans rfl rfl
@[go_sem] theorem g_mk' (g : Nat → PV) (k : Nat → TS) : (St.mk g k).g = g := Eq.trans rfl rfl
@[go_sem] theorem g_init_zero (x : PV) (l : List PV) : (St.init (x :: l)).g 0 = x := Eq.trans rfl rfl
@[go_sem] theorem g_init_succ (x : PV) (l : List PV) (i : Nat) : (St.init (x :: l)).g (i + 1) = (St.init l).g i := by simp [St.init, List.getD]
@[go_sem] theorem g_init_nil (i : Nat) : (St.init []).g i = .und .any := Eq.trans rfl rfl
@[go_sem] theorem k_init (l : List PV) : (St.init l).k = fun _ => .fresh := Eq.trans rfl rfl
@[go_sem] theorem g_mkSt (g : List (Nat × PV)) (k : List (Nat × Tok)) : (mkSt g k).g = mkG g := Eq.trans rfl rfl
@[go_sem] theorem k_mkSt (g : List (Nat × PV)) (k : List (Nat × Tok)) : (mkSt g k).k = mkK k := Eq.trans rfl rfl
@[go_sem] theorem mkG_cons (s : Nat) (x : PV) (r : List (Nat × PV)) (i : Nat) : mkG ((s, x) :: r) i = if i = s then x else mkG r i := Eq.trans rfl rfl
@[go_sem] theorem mkG_nil (i : Nat) : mkG [] i = .any := Eq.trans rfl rfl
@[go_sem] theorem mkK_cons (s : Nat) (x : Tok) (r : List (Nat × Tok)) (i : Nat) : mkK ((s, x) :: r) i = if i = s then .live x else mkK r i := Eq.trans rfl rfl
@[go_sem] theorem mkK_nil (i : Nat) : mkK [] i = .fresh := Eq.trans rfl rfl
@[go_sem] theorem upd_apply {α : Type} (k : Nat → α) (t i : Nat) (x : α) : upd k t x i = if i = t then x else k i := Eq.trans rfl rfl
@[go_sem] theorem ev_tmp (σ : St) (t : Tmp) : σ.ev (.tmp t) = σ.g t := Eq.trans rfl rfl
@[go_sem] theorem ev_func (σ : St) (f : FuncId) : σ.ev (.func f) = .fn f [] := Eq.trans rfl rfl
@[go_sem] theorem ev_int (σ : St) (k : IntKind) (n : Int) : σ.ev (.const (.int k n)) = .int k n := Eq.trans rfl rfl
@[go_sem] theorem ev_bool (σ : St) (b : Bool) : σ.ev (.const (.bool b)) = .bool b := Eq.trans rfl rfl
@[go_sem] theorem ev_str (σ : St) (l : List UInt8) : σ.ev (.const (.string ⟨l.toArray⟩)) = .str l := Eq.trans rfl rfl
@[go_sem] theorem ev_nils (σ : St) : σ.ev (.const (.slice none 0 0)) = .nils := Eq.trans rfl rfl
@[go_sem] theorem ev_nilp (σ : St) : σ.ev (.const (.pointer none)) = .nilp := Eq.trans rfl rfl
@[go_sem] theorem ev_nilfn (σ : St) : σ.ev (.const .nilFunc) = .nilfn := Eq.trans rfl rfl

@[go_sem] theorem strip_int (k : IntKind) (n : Int) : PV.strip (PV.int k n) = (PV.int k n) := Eq.trans rfl rfl
@[go_sem] theorem ok_int (k : IntKind) (n : Int) : PV.ok (PV.int k n) = true := Eq.trans rfl rfl
@[go_sem] theorem strip_mk_int (g : Bool) (k : IntKind) (n : Int) : PV.strip (PV.mk g (PV.int k n)) = (PV.int k n) := strip_mk _ _ rfl
@[go_sem] theorem ok_mk_int (g : Bool) (k : IntKind) (n : Int) : PV.ok (PV.mk g (PV.int k n)) = g := by cases g <;> rfl
@[go_sem] theorem one_int (k0 : Nat → TS) (k : IntKind) (n : Int) : PV.one k0 (PV.int k n) = true := Eq.trans rfl rfl
@[go_sem] theorem oks_int (k0 : Nat → TS) (k : IntKind) (n : Int) : PV.oks k0 (PV.int k n) = true := Eq.trans rfl rfl
@[go_sem] theorem cells_int (k : IntKind) (n : Int) : PV.cells (PV.int k n) = [(PV.int k n)] := Eq.trans rfl rfl
@[go_sem] theorem ptLive_int (k0 : Nat → TS) (k : IntKind) (n : Int) : ptLive k0 (PV.int k n) = true := Eq.trans rfl rfl
@[go_sem] theorem refLive_int (k0 : Nat → TS) (k : IntKind) (n : Int) : refLive k0 (PV.int k n) = true := Eq.trans rfl rfl
@[go_sem] theorem roS_int (d : Nat) (k0 : Nat → TS) (k : IntKind) (n : Int) : roS d k0 (PV.int k n) = (PV.int k n) := by cases d <;> rfl
@[go_sem] theorem deS_int (d : Nat) (k0 : Nat → TS) (k : IntKind) (n : Int) : deS d k0 (PV.int k n) = [] := by cases d <;> rfl
@[go_sem] theorem nm1_int (k : IntKind) (n : Int) : PV.nm1 (PV.int k n) = [] := Eq.trans rfl rfl
@[go_sem] theorem nm_int (k : IntKind) (n : Int) : PV.nm (PV.int k n) = [] := Eq.trans rfl rfl
@[go_sem] theorem ren_int (K : Nms) (k : IntKind) (n : Int) : ren K (PV.int k n) = some (PV.int k n) := Eq.trans rfl rfl
@[go_sem] theorem ren2_int (K : Nms) (k : IntKind) (n : Int) : ren2 K (PV.int k n) = some (PV.int k n) := Eq.trans rfl rfl
@[go_sem] theorem ren1_int (K : Nms) (k : IntKind) (n : Int) : ren1 K (PV.int k n) = some (PV.int k n) := Eq.trans rfl rfl
@[go_sem] theorem flat_int (k : IntKind) (n : Int) : PV.flat (PV.int k n) = true := Eq.trans rfl rfl
@[go_sem] theorem flat2_int (k : IntKind) (n : Int) : PV.flat2 (PV.int k n) = true := Eq.trans rfl rfl
@[go_sem] theorem flat1_int (k : IntKind) (n : Int) : PV.flat1 (PV.int k n) = true := Eq.trans rfl rfl
@[go_sem] theorem pure1_int (k : IntKind) (n : Int) : PV.pure1 (PV.int k n) = true := Eq.trans rfl rfl
@[go_sem] theorem pure_int (k : IntKind) (n : Int) : PV.pure (PV.int k n) = true := Eq.trans rfl rfl
@[go_sem] theorem strip_bool (b : Bool) : PV.strip (PV.bool b) = (PV.bool b) := Eq.trans rfl rfl
@[go_sem] theorem ok_bool (b : Bool) : PV.ok (PV.bool b) = true := Eq.trans rfl rfl
@[go_sem] theorem strip_mk_bool (g : Bool) (b : Bool) : PV.strip (PV.mk g (PV.bool b)) = (PV.bool b) := strip_mk _ _ rfl
@[go_sem] theorem ok_mk_bool (g : Bool) (b : Bool) : PV.ok (PV.mk g (PV.bool b)) = g := by cases g <;> rfl
@[go_sem] theorem one_bool (k0 : Nat → TS) (b : Bool) : PV.one k0 (PV.bool b) = true := Eq.trans rfl rfl
@[go_sem] theorem oks_bool (k0 : Nat → TS) (b : Bool) : PV.oks k0 (PV.bool b) = true := Eq.trans rfl rfl
@[go_sem] theorem cells_bool (b : Bool) : PV.cells (PV.bool b) = [(PV.bool b)] := Eq.trans rfl rfl
@[go_sem] theorem ptLive_bool (k0 : Nat → TS) (b : Bool) : ptLive k0 (PV.bool b) = true := Eq.trans rfl rfl
@[go_sem] theorem refLive_bool (k0 : Nat → TS) (b : Bool) : refLive k0 (PV.bool b) = true := Eq.trans rfl rfl
@[go_sem] theorem roS_bool (d : Nat) (k0 : Nat → TS) (b : Bool) : roS d k0 (PV.bool b) = (PV.bool b) := by cases d <;> rfl
@[go_sem] theorem deS_bool (d : Nat) (k0 : Nat → TS) (b : Bool) : deS d k0 (PV.bool b) = [] := by cases d <;> rfl
@[go_sem] theorem nm1_bool (b : Bool) : PV.nm1 (PV.bool b) = [] := Eq.trans rfl rfl
@[go_sem] theorem nm_bool (b : Bool) : PV.nm (PV.bool b) = [] := Eq.trans rfl rfl
@[go_sem] theorem ren_bool (K : Nms) (b : Bool) : ren K (PV.bool b) = some (PV.bool b) := Eq.trans rfl rfl
@[go_sem] theorem ren2_bool (K : Nms) (b : Bool) : ren2 K (PV.bool b) = some (PV.bool b) := Eq.trans rfl rfl
@[go_sem] theorem ren1_bool (K : Nms) (b : Bool) : ren1 K (PV.bool b) = some (PV.bool b) := Eq.trans rfl rfl
@[go_sem] theorem flat_bool (b : Bool) : PV.flat (PV.bool b) = true := Eq.trans rfl rfl
@[go_sem] theorem flat2_bool (b : Bool) : PV.flat2 (PV.bool b) = true := Eq.trans rfl rfl
@[go_sem] theorem flat1_bool (b : Bool) : PV.flat1 (PV.bool b) = true := Eq.trans rfl rfl
@[go_sem] theorem pure1_bool (b : Bool) : PV.pure1 (PV.bool b) = true := Eq.trans rfl rfl
@[go_sem] theorem pure_bool (b : Bool) : PV.pure (PV.bool b) = true := Eq.trans rfl rfl
@[go_sem] theorem strip_str (s : List UInt8) : PV.strip (PV.str s) = (PV.str s) := Eq.trans rfl rfl
@[go_sem] theorem ok_str (s : List UInt8) : PV.ok (PV.str s) = true := Eq.trans rfl rfl
@[go_sem] theorem strip_mk_str (g : Bool) (s : List UInt8) : PV.strip (PV.mk g (PV.str s)) = (PV.str s) := strip_mk _ _ rfl
@[go_sem] theorem ok_mk_str (g : Bool) (s : List UInt8) : PV.ok (PV.mk g (PV.str s)) = g := by cases g <;> rfl
@[go_sem] theorem one_str (k0 : Nat → TS) (s : List UInt8) : PV.one k0 (PV.str s) = true := Eq.trans rfl rfl
@[go_sem] theorem oks_str (k0 : Nat → TS) (s : List UInt8) : PV.oks k0 (PV.str s) = true := Eq.trans rfl rfl
@[go_sem] theorem cells_str (s : List UInt8) : PV.cells (PV.str s) = [(PV.str s)] := Eq.trans rfl rfl
@[go_sem] theorem ptLive_str (k0 : Nat → TS) (s : List UInt8) : ptLive k0 (PV.str s) = true := Eq.trans rfl rfl
@[go_sem] theorem refLive_str (k0 : Nat → TS) (s : List UInt8) : refLive k0 (PV.str s) = true := Eq.trans rfl rfl
@[go_sem] theorem roS_str (d : Nat) (k0 : Nat → TS) (s : List UInt8) : roS d k0 (PV.str s) = (PV.str s) := by cases d <;> rfl
@[go_sem] theorem deS_str (d : Nat) (k0 : Nat → TS) (s : List UInt8) : deS d k0 (PV.str s) = [] := by cases d <;> rfl
@[go_sem] theorem nm1_str (s : List UInt8) : PV.nm1 (PV.str s) = [] := Eq.trans rfl rfl
@[go_sem] theorem nm_str (s : List UInt8) : PV.nm (PV.str s) = [] := Eq.trans rfl rfl
@[go_sem] theorem ren_str (K : Nms) (s : List UInt8) : ren K (PV.str s) = some (PV.str s) := Eq.trans rfl rfl
@[go_sem] theorem ren2_str (K : Nms) (s : List UInt8) : ren2 K (PV.str s) = some (PV.str s) := Eq.trans rfl rfl
@[go_sem] theorem ren1_str (K : Nms) (s : List UInt8) : ren1 K (PV.str s) = some (PV.str s) := Eq.trans rfl rfl
@[go_sem] theorem flat_str (s : List UInt8) : PV.flat (PV.str s) = true := Eq.trans rfl rfl
@[go_sem] theorem flat2_str (s : List UInt8) : PV.flat2 (PV.str s) = true := Eq.trans rfl rfl
@[go_sem] theorem flat1_str (s : List UInt8) : PV.flat1 (PV.str s) = true := Eq.trans rfl rfl
@[go_sem] theorem pure1_str (s : List UInt8) : PV.pure1 (PV.str s) = true := Eq.trans rfl rfl
@[go_sem] theorem pure_str (s : List UInt8) : PV.pure (PV.str s) = true := Eq.trans rfl rfl
@[go_sem] theorem strip_sl (es : List (List PV)) : PV.strip (PV.sl es) = (PV.sl es) := Eq.trans rfl rfl
@[go_sem] theorem ok_sl (es : List (List PV)) : PV.ok (PV.sl es) = true := Eq.trans rfl rfl
@[go_sem] theorem strip_mk_sl (g : Bool) (es : List (List PV)) : PV.strip (PV.mk g (PV.sl es)) = (PV.sl es) := strip_mk _ _ rfl
@[go_sem] theorem ok_mk_sl (g : Bool) (es : List (List PV)) : PV.ok (PV.mk g (PV.sl es)) = g := by cases g <;> rfl
@[go_sem] theorem one_sl (k0 : Nat → TS) (es : List (List PV)) : PV.one k0 (PV.sl es) = true := Eq.trans rfl rfl
@[go_sem] theorem oks_sl (k0 : Nat → TS) (es : List (List PV)) : PV.oks k0 (PV.sl es) = true := Eq.trans rfl rfl
@[go_sem] theorem cells_sl (es : List (List PV)) : PV.cells (PV.sl es) = [(PV.sl es)] := Eq.trans rfl rfl
@[go_sem] theorem ptLive_sl (k0 : Nat → TS) (es : List (List PV)) : ptLive k0 (PV.sl es) = true := Eq.trans rfl rfl
@[go_sem] theorem refLive_sl (k0 : Nat → TS) (es : List (List PV)) : refLive k0 (PV.sl es) = true := Eq.trans rfl rfl
@[go_sem] theorem roS_sl (d : Nat) (k0 : Nat → TS) (es : List (List PV)) : roS d k0 (PV.sl es) = (PV.sl es) := by cases d <;> rfl
@[go_sem] theorem deS_sl (d : Nat) (k0 : Nat → TS) (es : List (List PV)) : deS d k0 (PV.sl es) = [] := by cases d <;> rfl
@[go_sem] theorem nm1_sl (es : List (List PV)) : PV.nm1 (PV.sl es) = [] := Eq.trans rfl rfl
@[go_sem] theorem nm_sl (es : List (List PV)) : PV.nm (PV.sl es) = [] := Eq.trans rfl rfl
@[go_sem] theorem ren_sl (K : Nms) (es : List (List PV)) : ren K (PV.sl es) = some (PV.sl es) := Eq.trans rfl rfl
@[go_sem] theorem ren2_sl (K : Nms) (es : List (List PV)) : ren2 K (PV.sl es) = some (PV.sl es) := Eq.trans rfl rfl
@[go_sem] theorem ren1_sl (K : Nms) (es : List (List PV)) : ren1 K (PV.sl es) = some (PV.sl es) := Eq.trans rfl rfl
@[go_sem] theorem flat_sl (es : List (List PV)) : PV.flat (PV.sl es) = false := Eq.trans rfl rfl
@[go_sem] theorem flat2_sl (es : List (List PV)) : PV.flat2 (PV.sl es) = false := Eq.trans rfl rfl
@[go_sem] theorem flat1_sl (es : List (List PV)) : PV.flat1 (PV.sl es) = false := Eq.trans rfl rfl
@[go_sem] theorem pure1_sl (es : List (List PV)) : PV.pure1 (PV.sl es) = true := Eq.trans rfl rfl
@[go_sem] theorem pure_sl (es : List (List PV)) : PV.pure (PV.sl es) = true := Eq.trans rfl rfl
@[go_sem] theorem strip_pro (xs : List PV) (off : Nat) : PV.strip (PV.pro xs off) = (PV.pro xs off) := Eq.trans rfl rfl
@[go_sem] theorem ok_pro (xs : List PV) (off : Nat) : PV.ok (PV.pro xs off) = true := Eq.trans rfl rfl
@[go_sem] theorem strip_mk_pro (g : Bool) (xs : List PV) (off : Nat) : PV.strip (PV.mk g (PV.pro xs off)) = (PV.pro xs off) := strip_mk _ _ rfl
@[go_sem] theorem ok_mk_pro (g : Bool) (xs : List PV) (off : Nat) : PV.ok (PV.mk g (PV.pro xs off)) = g := by cases g <;> rfl
@[go_sem] theorem one_pro (k0 : Nat → TS) (xs : List PV) (off : Nat) : PV.one k0 (PV.pro xs off) = true := Eq.trans rfl rfl
@[go_sem] theorem oks_pro (k0 : Nat → TS) (xs : List PV) (off : Nat) : PV.oks k0 (PV.pro xs off) = true := Eq.trans rfl rfl
@[go_sem] theorem cells_pro (xs : List PV) (off : Nat) : PV.cells (PV.pro xs off) = [(PV.pro xs off)] := Eq.trans rfl rfl
@[go_sem] theorem ptLive_pro (k0 : Nat → TS) (xs : List PV) (off : Nat) : ptLive k0 (PV.pro xs off) = true := Eq.trans rfl rfl
@[go_sem] theorem refLive_pro (k0 : Nat → TS) (xs : List PV) (off : Nat) : refLive k0 (PV.pro xs off) = true := Eq.trans rfl rfl
@[go_sem] theorem roS_pro (d : Nat) (k0 : Nat → TS) (xs : List PV) (off : Nat) : roS d k0 (PV.pro xs off) = (PV.pro xs off) := by cases d <;> rfl
@[go_sem] theorem deS_pro (d : Nat) (k0 : Nat → TS) (xs : List PV) (off : Nat) : deS d k0 (PV.pro xs off) = [] := by cases d <;> rfl
@[go_sem] theorem nm1_pro (xs : List PV) (off : Nat) : PV.nm1 (PV.pro xs off) = [] := Eq.trans rfl rfl
@[go_sem] theorem nm_pro (xs : List PV) (off : Nat) : PV.nm (PV.pro xs off) = [] := Eq.trans rfl rfl
@[go_sem] theorem ren_pro (K : Nms) (xs : List PV) (off : Nat) : ren K (PV.pro xs off) = some (PV.pro xs off) := Eq.trans rfl rfl
@[go_sem] theorem ren2_pro (K : Nms) (xs : List PV) (off : Nat) : ren2 K (PV.pro xs off) = some (PV.pro xs off) := Eq.trans rfl rfl
@[go_sem] theorem ren1_pro (K : Nms) (xs : List PV) (off : Nat) : ren1 K (PV.pro xs off) = some (PV.pro xs off) := Eq.trans rfl rfl
@[go_sem] theorem flat_pro (xs : List PV) (off : Nat) : PV.flat (PV.pro xs off) = false := Eq.trans rfl rfl
@[go_sem] theorem flat2_pro (xs : List PV) (off : Nat) : PV.flat2 (PV.pro xs off) = false := Eq.trans rfl rfl
@[go_sem] theorem flat1_pro (xs : List PV) (off : Nat) : PV.flat1 (PV.pro xs off) = false := Eq.trans rfl rfl
@[go_sem] theorem pure1_pro (xs : List PV) (off : Nat) : PV.pure1 (PV.pro xs off) = true := Eq.trans rfl rfl
@[go_sem] theorem pure_pro (xs : List PV) (off : Nat) : PV.pure (PV.pro xs off) = true := Eq.trans rfl rfl
@[go_sem] theorem strip_agg (xs : List PV) : PV.strip (PV.agg xs) = (PV.agg xs) := Eq.trans rfl rfl
@[go_sem] theorem ok_agg (xs : List PV) : PV.ok (PV.agg xs) = true := Eq.trans rfl rfl
@[go_sem] theorem strip_mk_agg (g : Bool) (xs : List PV) : PV.strip (PV.mk g (PV.agg xs)) = (PV.agg xs) := strip_mk _ _ rfl
@[go_sem] theorem ok_mk_agg (g : Bool) (xs : List PV) : PV.ok (PV.mk g (PV.agg xs)) = g := by cases g <;> rfl
@[go_sem] theorem one_agg (k0 : Nat → TS) (xs : List PV) : PV.one k0 (PV.agg xs) = false := Eq.trans rfl rfl
@[go_sem] theorem ptLive_agg (k0 : Nat → TS) (xs : List PV) : ptLive k0 (PV.agg xs) = true := Eq.trans rfl rfl
@[go_sem] theorem refLive_agg (k0 : Nat → TS) (xs : List PV) : refLive k0 (PV.agg xs) = true := Eq.trans rfl rfl
@[go_sem] theorem nm1_agg (xs : List PV) : PV.nm1 (PV.agg xs) = [] := Eq.trans rfl rfl
@[go_sem] theorem nm_agg (xs : List PV) : PV.nm (PV.agg xs) = xs.flatMap PV.nm1 := Eq.trans rfl rfl
@[go_sem] theorem flat_agg (xs : List PV) : PV.flat (PV.agg xs) = xs.all PV.flat1 := Eq.trans rfl rfl
@[go_sem] theorem flat2_agg (xs : List PV) : PV.flat2 (PV.agg xs) = xs.all PV.flat1 := Eq.trans rfl rfl
@[go_sem] theorem flat1_agg (xs : List PV) : PV.flat1 (PV.agg xs) = false := Eq.trans rfl rfl
@[go_sem] theorem pure1_agg (xs : List PV) : PV.pure1 (PV.agg xs) = false := Eq.trans rfl rfl
@[go_sem] theorem strip_tup (xs : List PV) : PV.strip (PV.tup xs) = (PV.tup xs) := Eq.trans rfl rfl
@[go_sem] theorem ok_tup (xs : List PV) : PV.ok (PV.tup xs) = true := Eq.trans rfl rfl
@[go_sem] theorem strip_mk_tup (g : Bool) (xs : List PV) : PV.strip (PV.mk g (PV.tup xs)) = (PV.tup xs) := strip_mk _ _ rfl
@[go_sem] theorem ok_mk_tup (g : Bool) (xs : List PV) : PV.ok (PV.mk g (PV.tup xs)) = g := by cases g <;> rfl
@[go_sem] theorem one_tup (k0 : Nat → TS) (xs : List PV) : PV.one k0 (PV.tup xs) = false := Eq.trans rfl rfl
@[go_sem] theorem oks_tup (k0 : Nat → TS) (xs : List PV) : PV.oks k0 (PV.tup xs) = false := Eq.trans rfl rfl
@[go_sem] theorem cells_tup (xs : List PV) : PV.cells (PV.tup xs) = [(PV.tup xs)] := Eq.trans rfl rfl
@[go_sem] theorem ptLive_tup (k0 : Nat → TS) (xs : List PV) : ptLive k0 (PV.tup xs) = true := Eq.trans rfl rfl
@[go_sem] theorem refLive_tup (k0 : Nat → TS) (xs : List PV) : refLive k0 (PV.tup xs) = true := Eq.trans rfl rfl
@[go_sem] theorem nm1_tup (xs : List PV) : PV.nm1 (PV.tup xs) = [] := Eq.trans rfl rfl
@[go_sem] theorem nm_tup (xs : List PV) : PV.nm (PV.tup xs) = xs.flatMap PV.nm1 := Eq.trans rfl rfl
@[go_sem] theorem flat_tup (xs : List PV) : PV.flat (PV.tup xs) = xs.all PV.flat2 := Eq.trans rfl rfl
@[go_sem] theorem flat2_tup (xs : List PV) : PV.flat2 (PV.tup xs) = false := Eq.trans rfl rfl
@[go_sem] theorem flat1_tup (xs : List PV) : PV.flat1 (PV.tup xs) = false := Eq.trans rfl rfl
@[go_sem] theorem pure1_tup (xs : List PV) : PV.pure1 (PV.tup xs) = false := Eq.trans rfl rfl
@[go_sem] theorem strip_fn (f : FuncId) (xs : List PV) : PV.strip (PV.fn f xs) = (PV.fn f xs) := Eq.trans rfl rfl
@[go_sem] theorem ok_fn (f : FuncId) (xs : List PV) : PV.ok (PV.fn f xs) = true := Eq.trans rfl rfl
@[go_sem] theorem strip_mk_fn (g : Bool) (f : FuncId) (xs : List PV) : PV.strip (PV.mk g (PV.fn f xs)) = (PV.fn f xs) := strip_mk _ _ rfl
@[go_sem] theorem ok_mk_fn (g : Bool) (f : FuncId) (xs : List PV) : PV.ok (PV.mk g (PV.fn f xs)) = g := by cases g <;> rfl
@[go_sem] theorem one_fn (k0 : Nat → TS) (f : FuncId) (xs : List PV) : PV.one k0 (PV.fn f xs) = true := Eq.trans rfl rfl
@[go_sem] theorem oks_fn (k0 : Nat → TS) (f : FuncId) (xs : List PV) : PV.oks k0 (PV.fn f xs) = true := Eq.trans rfl rfl
@[go_sem] theorem cells_fn (f : FuncId) (xs : List PV) : PV.cells (PV.fn f xs) = [(PV.fn f xs)] := Eq.trans rfl rfl
@[go_sem] theorem ptLive_fn (k0 : Nat → TS) (f : FuncId) (xs : List PV) : ptLive k0 (PV.fn f xs) = true := Eq.trans rfl rfl
@[go_sem] theorem refLive_fn (k0 : Nat → TS) (f : FuncId) (xs : List PV) : refLive k0 (PV.fn f xs) = true := Eq.trans rfl rfl
@[go_sem] theorem nm1_fn (f : FuncId) (xs : List PV) : PV.nm1 (PV.fn f xs) = [] := Eq.trans rfl rfl
@[go_sem] theorem nm_fn (f : FuncId) (xs : List PV) : PV.nm (PV.fn f xs) = xs.flatMap PV.nm1 := Eq.trans rfl rfl
@[go_sem] theorem flat_fn (f : FuncId) (xs : List PV) : PV.flat (PV.fn f xs) = false := Eq.trans rfl rfl
@[go_sem] theorem flat2_fn (f : FuncId) (xs : List PV) : PV.flat2 (PV.fn f xs) = false := Eq.trans rfl rfl
@[go_sem] theorem flat1_fn (f : FuncId) (xs : List PV) : PV.flat1 (PV.fn f xs) = false := Eq.trans rfl rfl
@[go_sem] theorem pure1_fn (f : FuncId) (xs : List PV) : PV.pure1 (PV.fn f xs) = false := Eq.trans rfl rfl
@[go_sem] theorem strip_ref (t sz lo m : Nat) : PV.strip (PV.ref t sz lo m) = (PV.ref t sz lo m) := Eq.trans rfl rfl
@[go_sem] theorem ok_ref (t sz lo m : Nat) : PV.ok (PV.ref t sz lo m) = true := Eq.trans rfl rfl
@[go_sem] theorem strip_mk_ref (g : Bool) (t sz lo m : Nat) : PV.strip (PV.mk g (PV.ref t sz lo m)) = (PV.ref t sz lo m) := strip_mk _ _ rfl
@[go_sem] theorem ok_mk_ref (g : Bool) (t sz lo m : Nat) : PV.ok (PV.mk g (PV.ref t sz lo m)) = g := by cases g <;> rfl
@[go_sem] theorem one_ref (k0 : Nat → TS) (t sz lo m : Nat) : PV.one k0 (PV.ref t sz lo m) = isLive k0 t := Eq.trans rfl rfl
@[go_sem] theorem oks_ref (k0 : Nat → TS) (t sz lo m : Nat) : PV.oks k0 (PV.ref t sz lo m) = isLive k0 t := Eq.trans rfl rfl
@[go_sem] theorem cells_ref (t sz lo m : Nat) : PV.cells (PV.ref t sz lo m) = [(PV.ref t sz lo m)] := Eq.trans rfl rfl
@[go_sem] theorem ptLive_ref (k0 : Nat → TS) (t sz lo m : Nat) : ptLive k0 (PV.ref t sz lo m) = true := Eq.trans rfl rfl
@[go_sem] theorem refLive_ref (k0 : Nat → TS) (t sz lo m : Nat) : refLive k0 (PV.ref t sz lo m) = isLive k0 t := Eq.trans rfl rfl
@[go_sem] theorem nm1_ref (t sz lo m : Nat) : PV.nm1 (PV.ref t sz lo m) = [t] := Eq.trans rfl rfl
@[go_sem] theorem nm_ref (t sz lo m : Nat) : PV.nm (PV.ref t sz lo m) = [t] := Eq.trans rfl rfl
@[go_sem] theorem ren_ref (K : Nms) (t sz lo m : Nat) : ren K (PV.ref t sz lo m) = ren1 K (PV.ref t sz lo m) := Eq.trans rfl rfl
@[go_sem] theorem ren2_ref (K : Nms) (t sz lo m : Nat) : ren2 K (PV.ref t sz lo m) = ren1 K (PV.ref t sz lo m) := Eq.trans rfl rfl
def renC_ref (sz lo m : Nat) : Option (Option Nat) → Option PV | some (some o) => some (.ref o sz lo m) | some none => if lo = 0 ∧ m = 0 then some .nils else none | none => none
@[go_sem] theorem renC_ref_some (sz lo m o : Nat) : renC_ref sz lo m (some (some o)) = some (.ref o sz lo m) := rfl
@[go_sem] theorem renC_ref_none (sz lo m : Nat) : renC_ref sz lo m (some none) = if lo = 0 ∧ m = 0 then some .nils else none := rfl
@[go_sem] theorem ren1_ref (K : Nms) (t sz lo m : Nat) : ren1 K (PV.ref t sz lo m) = renC_ref sz lo m (K.src t) := by simp only [ren1, renC_ref]; split <;> simp_all
@[go_sem] theorem flat_ref (t sz lo m : Nat) : PV.flat (PV.ref t sz lo m) = false := Eq.trans rfl rfl
@[go_sem] theorem flat2_ref (t sz lo m : Nat) : PV.flat2 (PV.ref t sz lo m) = false := Eq.trans rfl rfl
@[go_sem] theorem flat1_ref (t sz lo m : Nat) : PV.flat1 (PV.ref t sz lo m) = false := Eq.trans rfl rfl
@[go_sem] theorem pure1_ref (t sz lo m : Nat) : PV.pure1 (PV.ref t sz lo m) = false := Eq.trans rfl rfl
@[go_sem] theorem pure_ref (t sz lo m : Nat) : PV.pure (PV.ref t sz lo m) = false := Eq.trans rfl rfl
@[go_sem] theorem strip_ptr (t off : Nat) : PV.strip (PV.ptr t off) = (PV.ptr t off) := Eq.trans rfl rfl
@[go_sem] theorem ok_ptr (t off : Nat) : PV.ok (PV.ptr t off) = true := Eq.trans rfl rfl
@[go_sem] theorem strip_mk_ptr (g : Bool) (t off : Nat) : PV.strip (PV.mk g (PV.ptr t off)) = (PV.ptr t off) := strip_mk _ _ rfl
@[go_sem] theorem ok_mk_ptr (g : Bool) (t off : Nat) : PV.ok (PV.mk g (PV.ptr t off)) = g := by cases g <;> rfl
@[go_sem] theorem one_ptr (k0 : Nat → TS) (t off : Nat) : PV.one k0 (PV.ptr t off) = isLive k0 t := Eq.trans rfl rfl
@[go_sem] theorem oks_ptr (k0 : Nat → TS) (t off : Nat) : PV.oks k0 (PV.ptr t off) = isLive k0 t := Eq.trans rfl rfl
@[go_sem] theorem cells_ptr (t off : Nat) : PV.cells (PV.ptr t off) = [(PV.ptr t off)] := Eq.trans rfl rfl
@[go_sem] theorem ptLive_ptr (k0 : Nat → TS) (t off : Nat) : ptLive k0 (PV.ptr t off) = isLive k0 t := Eq.trans rfl rfl
@[go_sem] theorem refLive_ptr (k0 : Nat → TS) (t off : Nat) : refLive k0 (PV.ptr t off) = true := Eq.trans rfl rfl
@[go_sem] theorem nm1_ptr (t off : Nat) : PV.nm1 (PV.ptr t off) = [t] := Eq.trans rfl rfl
@[go_sem] theorem nm_ptr (t off : Nat) : PV.nm (PV.ptr t off) = [t] := Eq.trans rfl rfl
@[go_sem] theorem ren_ptr (K : Nms) (t off : Nat) : ren K (PV.ptr t off) = ren1 K (PV.ptr t off) := Eq.trans rfl rfl
@[go_sem] theorem ren2_ptr (K : Nms) (t off : Nat) : ren2 K (PV.ptr t off) = ren1 K (PV.ptr t off) := Eq.trans rfl rfl
def renC_ptr (off : Nat) : Option (Option Nat) → Option PV | some (some o) => some (.ptr o off) | _ => none
@[go_sem] theorem renC_ptr_some (off : Nat) (o : Nat) : renC_ptr off (some (some o)) = some (.ptr o off) := Eq.trans rfl rfl
@[go_sem] theorem ren1_ptr (K : Nms) (t off : Nat) : ren1 K (PV.ptr t off) = renC_ptr off (K.src t) := by simp only [ren1, renC_ptr]; split <;> simp_all
@[go_sem] theorem flat_ptr (t off : Nat) : PV.flat (PV.ptr t off) = false := Eq.trans rfl rfl
@[go_sem] theorem flat2_ptr (t off : Nat) : PV.flat2 (PV.ptr t off) = false := Eq.trans rfl rfl
@[go_sem] theorem flat1_ptr (t off : Nat) : PV.flat1 (PV.ptr t off) = false := Eq.trans rfl rfl
@[go_sem] theorem pure1_ptr (t off : Nat) : PV.pure1 (PV.ptr t off) = false := Eq.trans rfl rfl
@[go_sem] theorem pure_ptr (t off : Nat) : PV.pure (PV.ptr t off) = false := Eq.trans rfl rfl
@[go_sem] theorem strip_ep (t sz i off : Nat) : PV.strip (PV.ep t sz i off) = (PV.ep t sz i off) := Eq.trans rfl rfl
@[go_sem] theorem ok_ep (t sz i off : Nat) : PV.ok (PV.ep t sz i off) = true := Eq.trans rfl rfl
@[go_sem] theorem strip_mk_ep (g : Bool) (t sz i off : Nat) : PV.strip (PV.mk g (PV.ep t sz i off)) = (PV.ep t sz i off) := strip_mk _ _ rfl
@[go_sem] theorem ok_mk_ep (g : Bool) (t sz i off : Nat) : PV.ok (PV.mk g (PV.ep t sz i off)) = g := by cases g <;> rfl
@[go_sem] theorem one_ep (k0 : Nat → TS) (t sz i off : Nat) : PV.one k0 (PV.ep t sz i off) = isLive k0 t := Eq.trans rfl rfl
@[go_sem] theorem oks_ep (k0 : Nat → TS) (t sz i off : Nat) : PV.oks k0 (PV.ep t sz i off) = isLive k0 t := Eq.trans rfl rfl
@[go_sem] theorem cells_ep (t sz i off : Nat) : PV.cells (PV.ep t sz i off) = [(PV.ep t sz i off)] := Eq.trans rfl rfl
@[go_sem] theorem ptLive_ep (k0 : Nat → TS) (t sz i off : Nat) : ptLive k0 (PV.ep t sz i off) = isLive k0 t := Eq.trans rfl rfl
@[go_sem] theorem refLive_ep (k0 : Nat → TS) (t sz i off : Nat) : refLive k0 (PV.ep t sz i off) = true := Eq.trans rfl rfl
@[go_sem] theorem nm1_ep (t sz i off : Nat) : PV.nm1 (PV.ep t sz i off) = [t] := Eq.trans rfl rfl
@[go_sem] theorem nm_ep (t sz i off : Nat) : PV.nm (PV.ep t sz i off) = [t] := Eq.trans rfl rfl
@[go_sem] theorem ren_ep (K : Nms) (t sz i off : Nat) : ren K (PV.ep t sz i off) = ren1 K (PV.ep t sz i off) := Eq.trans rfl rfl
@[go_sem] theorem ren2_ep (K : Nms) (t sz i off : Nat) : ren2 K (PV.ep t sz i off) = ren1 K (PV.ep t sz i off) := Eq.trans rfl rfl
def renC_ep (sz i off : Nat) : Option (Option Nat) → Option PV | some (some o) => some (.ep o sz i off) | _ => none
@[go_sem] theorem renC_ep_some (sz i off : Nat) (o : Nat) : renC_ep sz i off (some (some o)) = some (.ep o sz i off) := Eq.trans rfl rfl
@[go_sem] theorem ren1_ep (K : Nms) (t sz i off : Nat) : ren1 K (PV.ep t sz i off) = renC_ep sz i off (K.src t) := by simp only [ren1, renC_ep]; split <;> simp_all
@[go_sem] theorem flat_ep (t sz i off : Nat) : PV.flat (PV.ep t sz i off) = false := Eq.trans rfl rfl
@[go_sem] theorem flat2_ep (t sz i off : Nat) : PV.flat2 (PV.ep t sz i off) = false := Eq.trans rfl rfl
@[go_sem] theorem flat1_ep (t sz i off : Nat) : PV.flat1 (PV.ep t sz i off) = false := Eq.trans rfl rfl
@[go_sem] theorem pure1_ep (t sz i off : Nat) : PV.pure1 (PV.ep t sz i off) = false := Eq.trans rfl rfl
@[go_sem] theorem pure_ep (t sz i off : Nat) : PV.pure (PV.ep t sz i off) = false := Eq.trans rfl rfl
@[go_sem] theorem strip_nils  : PV.strip PV.nils = PV.nils := Eq.trans rfl rfl
@[go_sem] theorem ok_nils  : PV.ok PV.nils = true := Eq.trans rfl rfl
@[go_sem] theorem strip_mk_nils (g : Bool)  : PV.strip (PV.mk g PV.nils) = PV.nils := strip_mk _ _ rfl
@[go_sem] theorem ok_mk_nils (g : Bool)  : PV.ok (PV.mk g PV.nils) = g := by cases g <;> rfl
@[go_sem] theorem one_nils (k0 : Nat → TS)  : PV.one k0 PV.nils = true := Eq.trans rfl rfl
@[go_sem] theorem oks_nils (k0 : Nat → TS)  : PV.oks k0 PV.nils = true := Eq.trans rfl rfl
@[go_sem] theorem cells_nils  : PV.cells PV.nils = [PV.nils] := Eq.trans rfl rfl
@[go_sem] theorem ptLive_nils (k0 : Nat → TS)  : ptLive k0 PV.nils = true := Eq.trans rfl rfl
@[go_sem] theorem refLive_nils (k0 : Nat → TS)  : refLive k0 PV.nils = true := Eq.trans rfl rfl
@[go_sem] theorem nm1_nils  : PV.nm1 PV.nils = [] := Eq.trans rfl rfl
@[go_sem] theorem nm_nils  : PV.nm PV.nils = [] := Eq.trans rfl rfl
@[go_sem] theorem ren_nils (K : Nms)  : ren K PV.nils = some PV.nils := Eq.trans rfl rfl
@[go_sem] theorem ren2_nils (K : Nms)  : ren2 K PV.nils = some PV.nils := Eq.trans rfl rfl
@[go_sem] theorem ren1_nils (K : Nms)  : ren1 K PV.nils = some PV.nils := Eq.trans rfl rfl
@[go_sem] theorem flat_nils  : PV.flat PV.nils = true := Eq.trans rfl rfl
@[go_sem] theorem flat2_nils  : PV.flat2 PV.nils = true := Eq.trans rfl rfl
@[go_sem] theorem flat1_nils  : PV.flat1 PV.nils = true := Eq.trans rfl rfl
@[go_sem] theorem pure1_nils  : PV.pure1 PV.nils = true := Eq.trans rfl rfl
@[go_sem] theorem pure_nils  : PV.pure PV.nils = true := Eq.trans rfl rfl
@[go_sem] theorem strip_nilp  : PV.strip PV.nilp = PV.nilp := Eq.trans rfl rfl
@[go_sem] theorem ok_nilp  : PV.ok PV.nilp = true := Eq.trans rfl rfl
@[go_sem] theorem strip_mk_nilp (g : Bool)  : PV.strip (PV.mk g PV.nilp) = PV.nilp := strip_mk _ _ rfl
@[go_sem] theorem ok_mk_nilp (g : Bool)  : PV.ok (PV.mk g PV.nilp) = g := by cases g <;> rfl
@[go_sem] theorem one_nilp (k0 : Nat → TS)  : PV.one k0 PV.nilp = true := Eq.trans rfl rfl
@[go_sem] theorem oks_nilp (k0 : Nat → TS)  : PV.oks k0 PV.nilp = true := Eq.trans rfl rfl
@[go_sem] theorem cells_nilp  : PV.cells PV.nilp = [PV.nilp] := Eq.trans rfl rfl
@[go_sem] theorem ptLive_nilp (k0 : Nat → TS)  : ptLive k0 PV.nilp = true := Eq.trans rfl rfl
@[go_sem] theorem refLive_nilp (k0 : Nat → TS)  : refLive k0 PV.nilp = true := Eq.trans rfl rfl
@[go_sem] theorem roS_nilp (d : Nat) (k0 : Nat → TS)  : roS d k0 PV.nilp = PV.nilp := by cases d <;> rfl
@[go_sem] theorem deS_nilp (d : Nat) (k0 : Nat → TS)  : deS d k0 PV.nilp = [] := by cases d <;> rfl
@[go_sem] theorem nm1_nilp  : PV.nm1 PV.nilp = [] := Eq.trans rfl rfl
@[go_sem] theorem nm_nilp  : PV.nm PV.nilp = [] := Eq.trans rfl rfl
@[go_sem] theorem ren_nilp (K : Nms)  : ren K PV.nilp = some PV.nilp := Eq.trans rfl rfl
@[go_sem] theorem ren2_nilp (K : Nms)  : ren2 K PV.nilp = some PV.nilp := Eq.trans rfl rfl
@[go_sem] theorem ren1_nilp (K : Nms)  : ren1 K PV.nilp = some PV.nilp := Eq.trans rfl rfl
@[go_sem] theorem flat_nilp  : PV.flat PV.nilp = true := Eq.trans rfl rfl
@[go_sem] theorem flat2_nilp  : PV.flat2 PV.nilp = true := Eq.trans rfl rfl
@[go_sem] theorem flat1_nilp  : PV.flat1 PV.nilp = true := Eq.trans rfl rfl
@[go_sem] theorem pure1_nilp  : PV.pure1 PV.nilp = true := Eq.trans rfl rfl
@[go_sem] theorem pure_nilp  : PV.pure PV.nilp = true := Eq.trans rfl rfl
@[go_sem] theorem strip_nilfn  : PV.strip PV.nilfn = PV.nilfn := Eq.trans rfl rfl
@[go_sem] theorem ok_nilfn  : PV.ok PV.nilfn = true := Eq.trans rfl rfl
@[go_sem] theorem strip_mk_nilfn (g : Bool)  : PV.strip (PV.mk g PV.nilfn) = PV.nilfn := strip_mk _ _ rfl
@[go_sem] theorem ok_mk_nilfn (g : Bool)  : PV.ok (PV.mk g PV.nilfn) = g := by cases g <;> rfl
@[go_sem] theorem one_nilfn (k0 : Nat → TS)  : PV.one k0 PV.nilfn = true := Eq.trans rfl rfl
@[go_sem] theorem oks_nilfn (k0 : Nat → TS)  : PV.oks k0 PV.nilfn = true := Eq.trans rfl rfl
@[go_sem] theorem cells_nilfn  : PV.cells PV.nilfn = [PV.nilfn] := Eq.trans rfl rfl
@[go_sem] theorem ptLive_nilfn (k0 : Nat → TS)  : ptLive k0 PV.nilfn = true := Eq.trans rfl rfl
@[go_sem] theorem refLive_nilfn (k0 : Nat → TS)  : refLive k0 PV.nilfn = true := Eq.trans rfl rfl
@[go_sem] theorem roS_nilfn (d : Nat) (k0 : Nat → TS)  : roS d k0 PV.nilfn = PV.nilfn := by cases d <;> rfl
@[go_sem] theorem deS_nilfn (d : Nat) (k0 : Nat → TS)  : deS d k0 PV.nilfn = [] := by cases d <;> rfl
@[go_sem] theorem nm1_nilfn  : PV.nm1 PV.nilfn = [] := Eq.trans rfl rfl
@[go_sem] theorem nm_nilfn  : PV.nm PV.nilfn = [] := Eq.trans rfl rfl
@[go_sem] theorem ren_nilfn (K : Nms)  : ren K PV.nilfn = some PV.nilfn := Eq.trans rfl rfl
@[go_sem] theorem ren2_nilfn (K : Nms)  : ren2 K PV.nilfn = some PV.nilfn := Eq.trans rfl rfl
@[go_sem] theorem ren1_nilfn (K : Nms)  : ren1 K PV.nilfn = some PV.nilfn := Eq.trans rfl rfl
@[go_sem] theorem flat_nilfn  : PV.flat PV.nilfn = true := Eq.trans rfl rfl
@[go_sem] theorem flat2_nilfn  : PV.flat2 PV.nilfn = true := Eq.trans rfl rfl
@[go_sem] theorem flat1_nilfn  : PV.flat1 PV.nilfn = true := Eq.trans rfl rfl
@[go_sem] theorem pure1_nilfn  : PV.pure1 PV.nilfn = true := Eq.trans rfl rfl
@[go_sem] theorem pure_nilfn  : PV.pure PV.nilfn = true := Eq.trans rfl rfl
@[go_sem] theorem strip_mp (t : Nat) : PV.strip (PV.mp t) = (PV.mp t) := Eq.trans rfl rfl
@[go_sem] theorem ok_mp (t : Nat) : PV.ok (PV.mp t) = true := Eq.trans rfl rfl
@[go_sem] theorem strip_mk_mp (g : Bool) (t : Nat) : PV.strip (PV.mk g (PV.mp t)) = (PV.mp t) := strip_mk _ _ rfl
@[go_sem] theorem ok_mk_mp (g : Bool) (t : Nat) : PV.ok (PV.mk g (PV.mp t)) = g := by cases g <;> rfl
@[go_sem] theorem one_mp (k0 : Nat → TS) (t : Nat) : PV.one k0 (PV.mp t) = isLive k0 t := Eq.trans rfl rfl
@[go_sem] theorem oks_mp (k0 : Nat → TS) (t : Nat) : PV.oks k0 (PV.mp t) = isLive k0 t := Eq.trans rfl rfl
@[go_sem] theorem cells_mp (t : Nat) : PV.cells (PV.mp t) = [(PV.mp t)] := Eq.trans rfl rfl
@[go_sem] theorem ptLive_mp (k0 : Nat → TS) (t : Nat) : ptLive k0 (PV.mp t) = true := Eq.trans rfl rfl
@[go_sem] theorem refLive_mp (k0 : Nat → TS) (t : Nat) : refLive k0 (PV.mp t) = true := Eq.trans rfl rfl
@[go_sem] theorem nm1_mp (t : Nat) : PV.nm1 (PV.mp t) = [t] := Eq.trans rfl rfl
@[go_sem] theorem nm_mp (t : Nat) : PV.nm (PV.mp t) = [t] := Eq.trans rfl rfl
@[go_sem] theorem ren_mp (K : Nms) (t : Nat) : ren K (PV.mp t) = ren1 K (PV.mp t) := Eq.trans rfl rfl
@[go_sem] theorem ren2_mp (K : Nms) (t : Nat) : ren2 K (PV.mp t) = ren1 K (PV.mp t) := Eq.trans rfl rfl
def renC_mp  : Option (Option Nat) → Option PV | some (some o) => some (.mp o) | _ => none
@[go_sem] theorem renC_mp_some  (o : Nat) : renC_mp  (some (some o)) = some (.mp o) := Eq.trans rfl rfl
@[go_sem] theorem ren1_mp (K : Nms) (t : Nat) : ren1 K (PV.mp t) = renC_mp  (K.src t) := by simp only [ren1, renC_mp]; split <;> simp_all
@[go_sem] theorem flat_mp (t : Nat) : PV.flat (PV.mp t) = false := Eq.trans rfl rfl
@[go_sem] theorem flat2_mp (t : Nat) : PV.flat2 (PV.mp t) = false := Eq.trans rfl rfl
@[go_sem] theorem flat1_mp (t : Nat) : PV.flat1 (PV.mp t) = false := Eq.trans rfl rfl
@[go_sem] theorem pure1_mp (t : Nat) : PV.pure1 (PV.mp t) = false := Eq.trans rfl rfl
@[go_sem] theorem pure_mp (t : Nat) : PV.pure (PV.mp t) = false := Eq.trans rfl rfl
def loopQ (X : St → Prop) (Q : Exit → St → Prop) : Exit → St → Prop := fun e σ' => match e with | .normal => X σ' | e => Q e σ'
section
variable {P : Program} {n : Nat} {c : Code} {Q : Exit → St → Prop} {σ : St} {X : St → Prop}
@[go_sem ↓] theorem loopQ_normal : loopQ X Q .normal σ = X σ := Eq.trans rfl rfl
@[go_sem ↓] theorem loopQ_ret : loopQ X Q .ret σ = Q .ret σ := Eq.trans rfl rfl
@[go_sem ↓] theorem loopQ_exit {i : Nat} : loopQ X Q (.exit i) σ = Q (.exit i) σ := Eq.trans rfl rfl
/-- The loop's end: which state comes next, and where its names come from, is told by hand. -/
def backK {ι : Type} (F : ι → List (Option Nat) → Prop) (_t : Tg F := .mk) : Prop := ∃ i src, F i src
theorem backK_of {ι : Type} {F : ι → List (Option Nat) → Prop} (i : ι) (src : List (Option Nat)) (h : F i src) : backK F := ⟨i, src, h⟩
/-- A loop, in the form that is reckoned. -/
theorem VW_forQ {ι : Type} (I : ι → Prop) (m : ι → Nat) (g : ι → List (Nat × PV)) (k : ι → List (Nat × Tok)) (i0 : ι) (src : List (Option Nat)) (hI : I i0) (h0 : LeP σ (g i0) (k i0) src)
    (hs : ∀ i, I i → VW P n c (loopQ (fun σ' => backK fun i' src => I i' ∧ m i' < m i ∧ LeP σ' (g i') (k i') src) Q) (mkSt (g i) (k i))) : loopK P n c Q σ :=
  VW_for I m g k i0 src hI h0 (fun i hi => hs i hi)
theorem VW_unrollQ (h : VW P n c (loopQ (fun σ' => VW P n (.loop c) Q σ') Q) σ) : loopK P n c Q σ := VW_unroll h
end
section
variable (K : Nms)
@[go_sem] theorem ren_agg (xs : List PV) : ren K (.agg xs) = match xs.mapM (ren1 K) with | some ys => some (.agg ys) | none => none := Eq.trans rfl rfl
@[go_sem] theorem ren_tup (xs : List PV) : ren K (.tup xs) = match xs.mapM (ren2 K) with | some ys => some (.tup ys) | none => none := Eq.trans rfl rfl
@[go_sem] theorem ren_fn (f : FuncId) (xs : List PV) : ren K (.fn f xs) = match xs.mapM (ren1 K) with | some ys => some (.fn f ys) | none => none := Eq.trans rfl rfl
@[go_sem] theorem ren2_agg (xs : List PV) : ren2 K (.agg xs) = match xs.mapM (ren1 K) with | some ys => some (.agg ys) | none => none := Eq.trans rfl rfl
@[go_sem] theorem src_nil (t : Nat) : Nms.src [] t = none := Eq.trans rfl rfl
@[go_sem] theorem src_cons (a : Nat) (b : Option Nat) (c : Tok) (t : Nat) : Nms.src ((a, b, c) :: K) t = if a = t then some b else Nms.src K t := by
  simp only [Nms.src, List.find?_cons]
  by_cases h : a = t
  · simp [h]
  · have h' : (a == t) = false := by simpa using h
    simp [h, h']
end
@[go_sem] theorem oks_agg (k0 : Nat → TS) (xs : List PV) : PV.oks k0 (.agg xs) = xs.all (PV.one k0) := Eq.trans rfl rfl
@[go_sem] theorem cells_agg (xs : List PV) : PV.cells (.agg xs) = xs := Eq.trans rfl rfl
@[go_sem] theorem pure_agg (xs : List PV) : PV.pure (.agg xs) = xs.all PV.pure1 := Eq.trans rfl rfl
@[go_sem] theorem pure_fn (f : FuncId) (xs : List PV) : PV.pure (.fn f xs) = xs.all PV.pure1 := Eq.trans rfl rfl
@[go_sem] theorem pure_any : PV.pure .any = true := Eq.trans rfl rfl
@[go_sem] theorem strip_und (x : PV) : (PV.und x).strip = x := Eq.trans rfl rfl
@[go_sem] theorem ok_und (x : PV) : (PV.und x).ok = false := Eq.trans rfl rfl
@[go_sem] theorem mk_true' (x : PV) : PV.mk true x = x := Eq.trans rfl rfl
@[go_sem] theorem mk_false' (x : PV) : PV.mk false x = .und x := Eq.trans rfl rfl
@[go_sem] theorem isB_bool (b : Bool) : isB (.bool b) = true := Eq.trans rfl rfl
@[go_sem] theorem isB_und (x : PV) : isB (.und x) = true := Eq.trans rfl rfl
@[go_sem] theorem isB_mk (g b : Bool) : isB (.mk g (.bool b)) = true := by cases g <;> rfl
@[go_sem] theorem gb_t (b : Bool) : gb true (.bool b) = b := by cases b <;> rfl
@[go_sem] theorem gb_f (b : Bool) : gb false (.bool b) = !b := by cases b <;> rfl
@[go_sem] theorem gb_und (w : Bool) (x : PV) : gb w (.und x) = false := Eq.trans rfl rfl
@[go_sem] theorem gb_mk_t (g b : Bool) : gb true (.mk g (.bool b)) = (g && b) := by cases g <;> cases b <;> rfl
@[go_sem] theorem gb_mk_f (g b : Bool) : gb false (.mk g (.bool b)) = (g && !b) := by cases g <;> cases b <;> rfl
@[go_sem] theorem isLive_live (k : Nat → TS) (t : Nat) : isLive k t = (match k t with | .live _ => true | _ => false) := Eq.trans rfl rfl
@[go_sem] theorem roS4_nils (k : Nat → TS) : roS 4 k .nils = .sl [] := Eq.trans rfl rfl
@[go_sem] theorem deS4_nils (k : Nat → TS) : deS 4 k .nils = [] := Eq.trans rfl rfl
@[go_sem] theorem roS3_nils (k : Nat → TS) : roS 3 k .nils = .sl [] := Eq.trans rfl rfl
@[go_sem] theorem deS3_nils (k : Nat → TS) : deS 3 k .nils = [] := Eq.trans rfl rfl
@[go_sem] theorem roS2_nils (k : Nat → TS) : roS 2 k .nils = .sl [] := Eq.trans rfl rfl
@[go_sem] theorem deS2_nils (k : Nat → TS) : deS 2 k .nils = [] := Eq.trans rfl rfl

@[go_sem] theorem roS4_agg (k : Nat → TS) (xs : List PV) : roS 4 k (.agg xs) = .agg (xs.map (roS 3 k)) := Eq.trans rfl rfl
@[go_sem] theorem deS4_agg (k : Nat → TS) (xs : List PV) : deS 4 k (.agg xs) = xs.flatMap (deS 3 k) := Eq.trans rfl rfl
@[go_sem] theorem roS4_tup (k : Nat → TS) (xs : List PV) : roS 4 k (.tup xs) = .tup (xs.map (roS 3 k)) := Eq.trans rfl rfl
@[go_sem] theorem deS4_tup (k : Nat → TS) (xs : List PV) : deS 4 k (.tup xs) = xs.flatMap (deS 3 k) := Eq.trans rfl rfl
@[go_sem] theorem roS4_fn (k : Nat → TS) (f : FuncId) (xs : List PV) : roS 4 k (.fn f xs) = .fn f (xs.map (roS 3 k)) := Eq.trans rfl rfl
@[go_sem] theorem deS4_fn (k : Nat → TS) (f : FuncId) (xs : List PV) : deS 4 k (.fn f xs) = xs.flatMap (deS 3 k) := Eq.trans rfl rfl
def roPtr4 (k : Nat → TS) (off : Nat) : TS → PV | .live (.box xs _) => .pro (xs.map (roS 3 k)) off | _ => .any
@[go_sem] theorem roPtr4_box (k : Nat → TS) (off : Nat) (xs : List PV) (wr : Bool) : roPtr4 k off (.live (.box xs wr)) = .pro (xs.map (roS 3 k)) off := Eq.trans rfl rfl
@[go_sem] theorem roS4_ptr (k : Nat → TS) (t off : Nat) : roS 4 k (.ptr t off) = roPtr4 k off (k t) := by
  simp only [roS, roPtr4]
  cases k t with
  | live tk => cases tk <;> rfl
  | _ => rfl
def dePtr4 (k : Nat → TS) (t : Nat) : TS → List Nat | .live (.box xs _) => t :: xs.flatMap (deS 3 k) | _ => [t]
@[go_sem] theorem dePtr4_box (k : Nat → TS) (t : Nat) (xs : List PV) (wr : Bool) : dePtr4 k t (.live (.box xs wr)) = t :: xs.flatMap (deS 3 k) := Eq.trans rfl rfl
@[go_sem] theorem deS4_ptr (k : Nat → TS) (t off : Nat) : deS 4 k (.ptr t off) = dePtr4 k t (k t) := by simp only [deS, dePtr4]; split <;> simp_all
def roRef4 (k : Nat → TS) (sz lo n : Nat) : TS → PV | .live (.row _ sz' es _) => if sz = sz' ∧ lo + n ≤ es.length then .sl (((es.drop lo).take n).map fun e => e.map (roS 3 k)) else .any | _ => .any
@[go_sem] theorem roRef4_row (k : Nat → TS) (sz lo n : Nat) (e : TypeId) (sz' : Nat) (es : List (List PV)) (wr : Bool) : roRef4 k sz lo n (.live (.row e sz' es wr)) = if sz = sz' ∧ lo + n ≤ es.length then .sl (((es.drop lo).take n).map fun e => e.map (roS 3 k)) else .any := Eq.trans rfl rfl
@[go_sem] theorem roS4_ref (k : Nat → TS) (t sz lo n : Nat) : roS 4 k (.ref t sz lo n) = roRef4 k sz lo n (k t) := by
  simp only [roS, srcs, roRef4]
  cases k t with
  | live tk => cases tk with
    | row e sz' es wr => simp only; by_cases h : sz = sz' ∧ lo + n ≤ es.length <;> simp [h]
    | _ => rfl
  | _ => rfl
def deRef4 (k : Nat → TS) (t sz lo n : Nat) : TS → List Nat | .live (.row _ sz' es _) => t :: (if sz = sz' ∧ lo + n ≤ es.length then ((es.drop lo).take n).flatMap fun e => e.flatMap (deS 3 k) else []) | _ => [t]
@[go_sem] theorem deRef4_row (k : Nat → TS) (t sz lo n : Nat) (e : TypeId) (sz' : Nat) (es : List (List PV)) (wr : Bool) : deRef4 k t sz lo n (.live (.row e sz' es wr)) = t :: (if sz = sz' ∧ lo + n ≤ es.length then ((es.drop lo).take n).flatMap fun e => e.flatMap (deS 3 k) else []) := Eq.trans rfl rfl
@[go_sem] theorem deS4_ref (k : Nat → TS) (t sz lo n : Nat) : deS 4 k (.ref t sz lo n) = deRef4 k t sz lo n (k t) := by
  simp only [deS, srcs, deRef4]
  cases k t with
  | live tk => cases tk with
    | row e sz' es wr => simp only; by_cases h : sz = sz' ∧ lo + n ≤ es.length <;> simp [h]
    | _ => rfl
  | _ => rfl
@[go_sem] theorem roS3_agg (k : Nat → TS) (xs : List PV) : roS 3 k (.agg xs) = .agg (xs.map (roS 2 k)) := Eq.trans rfl rfl
@[go_sem] theorem deS3_agg (k : Nat → TS) (xs : List PV) : deS 3 k (.agg xs) = xs.flatMap (deS 2 k) := Eq.trans rfl rfl
@[go_sem] theorem roS3_tup (k : Nat → TS) (xs : List PV) : roS 3 k (.tup xs) = .tup (xs.map (roS 2 k)) := Eq.trans rfl rfl
@[go_sem] theorem deS3_tup (k : Nat → TS) (xs : List PV) : deS 3 k (.tup xs) = xs.flatMap (deS 2 k) := Eq.trans rfl rfl
@[go_sem] theorem roS3_fn (k : Nat → TS) (f : FuncId) (xs : List PV) : roS 3 k (.fn f xs) = .fn f (xs.map (roS 2 k)) := Eq.trans rfl rfl
@[go_sem] theorem deS3_fn (k : Nat → TS) (f : FuncId) (xs : List PV) : deS 3 k (.fn f xs) = xs.flatMap (deS 2 k) := Eq.trans rfl rfl
def roPtr3 (k : Nat → TS) (off : Nat) : TS → PV | .live (.box xs _) => .pro (xs.map (roS 2 k)) off | _ => .any
@[go_sem] theorem roPtr3_box (k : Nat → TS) (off : Nat) (xs : List PV) (wr : Bool) : roPtr3 k off (.live (.box xs wr)) = .pro (xs.map (roS 2 k)) off := Eq.trans rfl rfl
@[go_sem] theorem roS3_ptr (k : Nat → TS) (t off : Nat) : roS 3 k (.ptr t off) = roPtr3 k off (k t) := by
  simp only [roS, roPtr3]
  cases k t with
  | live tk => cases tk <;> rfl
  | _ => rfl
def dePtr3 (k : Nat → TS) (t : Nat) : TS → List Nat | .live (.box xs _) => t :: xs.flatMap (deS 2 k) | _ => [t]
@[go_sem] theorem dePtr3_box (k : Nat → TS) (t : Nat) (xs : List PV) (wr : Bool) : dePtr3 k t (.live (.box xs wr)) = t :: xs.flatMap (deS 2 k) := Eq.trans rfl rfl
@[go_sem] theorem deS3_ptr (k : Nat → TS) (t off : Nat) : deS 3 k (.ptr t off) = dePtr3 k t (k t) := by simp only [deS, dePtr3]; split <;> simp_all
def roRef3 (k : Nat → TS) (sz lo n : Nat) : TS → PV | .live (.row _ sz' es _) => if sz = sz' ∧ lo + n ≤ es.length then .sl (((es.drop lo).take n).map fun e => e.map (roS 2 k)) else .any | _ => .any
@[go_sem] theorem roRef3_row (k : Nat → TS) (sz lo n : Nat) (e : TypeId) (sz' : Nat) (es : List (List PV)) (wr : Bool) : roRef3 k sz lo n (.live (.row e sz' es wr)) = if sz = sz' ∧ lo + n ≤ es.length then .sl (((es.drop lo).take n).map fun e => e.map (roS 2 k)) else .any := Eq.trans rfl rfl
@[go_sem] theorem roS3_ref (k : Nat → TS) (t sz lo n : Nat) : roS 3 k (.ref t sz lo n) = roRef3 k sz lo n (k t) := by
  simp only [roS, srcs, roRef3]
  cases k t with
  | live tk => cases tk with
    | row e sz' es wr => simp only; by_cases h : sz = sz' ∧ lo + n ≤ es.length <;> simp [h]
    | _ => rfl
  | _ => rfl
def deRef3 (k : Nat → TS) (t sz lo n : Nat) : TS → List Nat | .live (.row _ sz' es _) => t :: (if sz = sz' ∧ lo + n ≤ es.length then ((es.drop lo).take n).flatMap fun e => e.flatMap (deS 2 k) else []) | _ => [t]
@[go_sem] theorem deRef3_row (k : Nat → TS) (t sz lo n : Nat) (e : TypeId) (sz' : Nat) (es : List (List PV)) (wr : Bool) : deRef3 k t sz lo n (.live (.row e sz' es wr)) = t :: (if sz = sz' ∧ lo + n ≤ es.length then ((es.drop lo).take n).flatMap fun e => e.flatMap (deS 2 k) else []) := Eq.trans rfl rfl
@[go_sem] theorem deS3_ref (k : Nat → TS) (t sz lo n : Nat) : deS 3 k (.ref t sz lo n) = deRef3 k t sz lo n (k t) := by
  simp only [deS, srcs, deRef3]
  cases k t with
  | live tk => cases tk with
    | row e sz' es wr => simp only; by_cases h : sz = sz' ∧ lo + n ≤ es.length <;> simp [h]
    | _ => rfl
  | _ => rfl
@[go_sem] theorem roS2_agg (k : Nat → TS) (xs : List PV) : roS 2 k (.agg xs) = .agg (xs.map (roS 1 k)) := Eq.trans rfl rfl
@[go_sem] theorem deS2_agg (k : Nat → TS) (xs : List PV) : deS 2 k (.agg xs) = xs.flatMap (deS 1 k) := Eq.trans rfl rfl
@[go_sem] theorem roS2_tup (k : Nat → TS) (xs : List PV) : roS 2 k (.tup xs) = .tup (xs.map (roS 1 k)) := Eq.trans rfl rfl
@[go_sem] theorem deS2_tup (k : Nat → TS) (xs : List PV) : deS 2 k (.tup xs) = xs.flatMap (deS 1 k) := Eq.trans rfl rfl
@[go_sem] theorem roS2_fn (k : Nat → TS) (f : FuncId) (xs : List PV) : roS 2 k (.fn f xs) = .fn f (xs.map (roS 1 k)) := Eq.trans rfl rfl
@[go_sem] theorem deS2_fn (k : Nat → TS) (f : FuncId) (xs : List PV) : deS 2 k (.fn f xs) = xs.flatMap (deS 1 k) := Eq.trans rfl rfl
def roPtr2 (k : Nat → TS) (off : Nat) : TS → PV | .live (.box xs _) => .pro (xs.map (roS 1 k)) off | _ => .any
@[go_sem] theorem roPtr2_box (k : Nat → TS) (off : Nat) (xs : List PV) (wr : Bool) : roPtr2 k off (.live (.box xs wr)) = .pro (xs.map (roS 1 k)) off := Eq.trans rfl rfl
@[go_sem] theorem roS2_ptr (k : Nat → TS) (t off : Nat) : roS 2 k (.ptr t off) = roPtr2 k off (k t) := by
  simp only [roS, roPtr2]
  cases k t with
  | live tk => cases tk <;> rfl
  | _ => rfl
def dePtr2 (k : Nat → TS) (t : Nat) : TS → List Nat | .live (.box xs _) => t :: xs.flatMap (deS 1 k) | _ => [t]
@[go_sem] theorem dePtr2_box (k : Nat → TS) (t : Nat) (xs : List PV) (wr : Bool) : dePtr2 k t (.live (.box xs wr)) = t :: xs.flatMap (deS 1 k) := Eq.trans rfl rfl
@[go_sem] theorem deS2_ptr (k : Nat → TS) (t off : Nat) : deS 2 k (.ptr t off) = dePtr2 k t (k t) := by simp only [deS, dePtr2]; split <;> simp_all
def roRef2 (k : Nat → TS) (sz lo n : Nat) : TS → PV | .live (.row _ sz' es _) => if sz = sz' ∧ lo + n ≤ es.length then .sl (((es.drop lo).take n).map fun e => e.map (roS 1 k)) else .any | _ => .any
@[go_sem] theorem roRef2_row (k : Nat → TS) (sz lo n : Nat) (e : TypeId) (sz' : Nat) (es : List (List PV)) (wr : Bool) : roRef2 k sz lo n (.live (.row e sz' es wr)) = if sz = sz' ∧ lo + n ≤ es.length then .sl (((es.drop lo).take n).map fun e => e.map (roS 1 k)) else .any := Eq.trans rfl rfl
@[go_sem] theorem roS2_ref (k : Nat → TS) (t sz lo n : Nat) : roS 2 k (.ref t sz lo n) = roRef2 k sz lo n (k t) := by
  simp only [roS, srcs, roRef2]
  cases k t with
  | live tk => cases tk with
    | row e sz' es wr => simp only; by_cases h : sz = sz' ∧ lo + n ≤ es.length <;> simp [h]
    | _ => rfl
  | _ => rfl
def deRef2 (k : Nat → TS) (t sz lo n : Nat) : TS → List Nat | .live (.row _ sz' es _) => t :: (if sz = sz' ∧ lo + n ≤ es.length then ((es.drop lo).take n).flatMap fun e => e.flatMap (deS 1 k) else []) | _ => [t]
@[go_sem] theorem deRef2_row (k : Nat → TS) (t sz lo n : Nat) (e : TypeId) (sz' : Nat) (es : List (List PV)) (wr : Bool) : deRef2 k t sz lo n (.live (.row e sz' es wr)) = t :: (if sz = sz' ∧ lo + n ≤ es.length then ((es.drop lo).take n).flatMap fun e => e.flatMap (deS 1 k) else []) := Eq.trans rfl rfl
@[go_sem] theorem deS2_ref (k : Nat → TS) (t sz lo n : Nat) : deS 2 k (.ref t sz lo n) = deRef2 k t sz lo n (k t) := by
  simp only [deS, srcs, deRef2]
  cases k t with
  | live tk => cases tk with
    | row e sz' es wr => simp only; by_cases h : sz = sz' ∧ lo + n ≤ es.length <;> simp [h]
    | _ => rfl
  | _ => rfl
section
variable (c p q : Bool)
@[go_sem] theorem psel_true (x y : PV) : psel true x y = x := Eq.trans rfl rfl
@[go_sem] theorem psel_false (x y : PV) : psel false x y = y := Eq.trans rfl rfl
@[go_sem] theorem psel_bool : psel c (.bool p) (.bool q) = .bool (if c then p else q) := by cases c <;> rfl
@[go_sem] theorem psel_int (k : IntKind) (a b : Int) : psel c (.int k a) (.int k b) = .int k (if c then a else b) := by cases c <;> rfl
@[go_sem] theorem psel_str (a b : List UInt8) : psel c (.str a) (.str b) = .str (if c then a else b) := by cases c <;> rfl
@[go_sem] theorem ite_and' : (if c then p else false) = (c && p) := by cases c <;> simp
@[go_sem] theorem ite_or' : (if c then true else p) = (c || p) := by cases c <;> simp
end
/- arithmetic -/
def andK (k : IntKind) (a b : Int) : Int := k.wrap (BitVec.ofInt k.bits a &&& BitVec.ofInt k.bits b).toNat
def orK (k : IntKind) (a b : Int) : Int := k.wrap (BitVec.ofInt k.bits a ||| BitVec.ofInt k.bits b).toNat
def xorK (k : IntKind) (a b : Int) : Int := k.wrap (BitVec.ofInt k.bits a ^^^ BitVec.ofInt k.bits b).toNat
def notK (k : IntKind) (a b : Int) : Int := k.wrap (BitVec.ofInt k.bits a &&& ~~~ BitVec.ofInt k.bits b).toNat
section
variable (P : Program) (t : TypeId) (k : IntKind) (a b : Int)
@[go_sem] theorem bin_add : bin P .add t (.int k a) (.int k b) = some (.int k (k.wrap (a + b))) := by simp [bin]
@[go_sem] theorem bin_sub : bin P .sub t (.int k a) (.int k b) = some (.int k (k.wrap (a - b))) := by simp [bin]
@[go_sem] theorem bin_mul : bin P .mul t (.int k a) (.int k b) = some (.int k (k.wrap (a * b))) := by simp [bin]
@[go_sem] theorem bin_quo : bin P .quo t (.int k a) (.int k b) = if b = 0 then none else some (.int k (k.wrap (a.tdiv b))) := by simp [bin]
@[go_sem] theorem bin_rem : bin P .rem t (.int k a) (.int k b) = if b = 0 then none else some (.int k (a.tmod b)) := by simp [bin]
@[go_sem] theorem bin_and : bin P .and t (.int k a) (.int k b) = some (.int k (andK k a b)) := by simp [bin, andK]
@[go_sem] theorem bin_or : bin P .or t (.int k a) (.int k b) = some (.int k (orK k a b)) := by simp [bin, orK]
@[go_sem] theorem bin_xor : bin P .xor t (.int k a) (.int k b) = some (.int k (xorK k a b)) := by simp [bin, xorK]
@[go_sem] theorem bin_andNot : bin P .andNot t (.int k a) (.int k b) = some (.int k (notK k a b)) := by simp [bin, notK]
@[go_sem] theorem bin_shl (k' : IntKind) : bin P .shl t (.int k a) (.int k' b) = if b < 0 then none else some (.int k (k.wrap (a * 2 ^ (min b.toNat k.bits)))) := by simp [bin]
@[go_sem] theorem bin_shr (k' : IntKind) : bin P .shr t (.int k a) (.int k' b) = if b < 0 then none else some (.int k (a.fdiv (2 ^ (min b.toNat k.bits)))) := by simp [bin]
@[go_sem] theorem bin_eql : bin P .eql t (.int k a) (.int k b) = some (.bool (a == b)) := by simp [bin]
@[go_sem] theorem bin_neq : bin P .neq t (.int k a) (.int k b) = some (.bool (a != b)) := by simp [bin]
@[go_sem] theorem bin_lss : bin P .lss t (.int k a) (.int k b) = some (.bool (decide (a < b))) := by simp [bin]
@[go_sem] theorem bin_leq : bin P .leq t (.int k a) (.int k b) = some (.bool (decide (a ≤ b))) := by simp [bin]
@[go_sem] theorem bin_gtr : bin P .gtr t (.int k a) (.int k b) = some (.bool (decide (b < a))) := by simp [bin]
@[go_sem] theorem bin_geq : bin P .geq t (.int k a) (.int k b) = some (.bool (decide (b ≤ a))) := by simp [bin]
@[go_sem] theorem bin_beql (x y : Bool) : bin P .eql t (.bool x) (.bool y) = if tyIs P t .bool then some (.bool (x == y)) else none := by simp only [bin]
@[go_sem] theorem bin_bneq (x y : Bool) : bin P .neq t (.bool x) (.bool y) = if tyIs P t .bool then some (.bool (x != y)) else none := by simp only [bin]
variable (x y : List UInt8)
theorem bin_nils (op : BinOp) (y : PV) : bin P op t y .nils = match op, isNilP y, tyElem P t with | .eql, some b, some _ => some (.bool b) | .neq, some b, some _ => some (.bool (!b)) | _, _, _ => none := by cases y <;> rfl
@[go_sem] theorem bin_nil1 (y : PV) : bin P .eql t y .nils = if (tyElem P t).isSome then (isNilP y).map .bool else none := by rw [bin_nils]; cases isNilP y <;> cases tyElem P t <;> rfl
@[go_sem] theorem bin_nil2 (y : PV) : bin P .neq t y .nils = if (tyElem P t).isSome then (isNilP y).map (fun b => .bool (!b)) else none := by rw [bin_nils]; cases isNilP y <;> cases tyElem P t <;> rfl
@[go_sem] theorem isNilP_nils : isNilP .nils = some true := Eq.trans rfl rfl
@[go_sem] theorem isNilP_emp (b : Bool) : isNilP (.emp b) = some b := Eq.trans rfl rfl
@[go_sem] theorem isNilP_sl (x : List PV) (l : List (List PV)) : isNilP (.sl (x :: l)) = some false := Eq.trans rfl rfl
@[go_sem] theorem bin_seql : bin P .eql t (.str x) (.str y) = some (.bool (x == y)) := Eq.trans rfl rfl
@[go_sem] theorem bin_sneq : bin P .neq t (.str x) (.str y) = some (.bool (x != y)) := Eq.trans rfl rfl
@[go_sem] theorem bin_slss : bin P .lss t (.str x) (.str y) = some (.bool (Op.bytesLess x y)) := Eq.trans rfl rfl
@[go_sem] theorem bin_sgeq : bin P .geq t (.str x) (.str y) = some (.bool (!Op.bytesLess x y)) := Eq.trans rfl rfl
@[go_sem] theorem bin_sleq : bin P .leq t (.str x) (.str y) = some (.bool (Op.bytesLess x y || x == y)) := Eq.trans rfl rfl
@[go_sem] theorem bin_sgtr : bin P .gtr t (.str x) (.str y) = some (.bool (!(Op.bytesLess x y || x == y))) := Eq.trans rfl rfl
@[go_sem] theorem bin_sadd : bin P .add t (.str x) (.str y) = if x.length + y.length ≤ 9223372036854775807 then some (.str (x ++ y)) else none := Eq.trans rfl rfl
@[go_sem] theorem un_not (p : Bool) : un .not (.bool p) = some (.bool !p) := Eq.trans rfl rfl
@[go_sem] theorem un_neg : un .neg (.int k a) = some (.int k (k.wrap (0 - a))) := Eq.trans rfl rfl
@[go_sem] theorem un_xor : un .xor (.int k a) = some (.int k (k.wrap (BitVec.ofInt k.bits (if k.signed then -1 else k.max) ^^^ BitVec.ofInt k.bits a).toNat)) := Eq.trans rfl rfl
@[go_sem] theorem conv_int (s d : TypeId) : conv P s d (.int k a) = (match tyInt P d with | some k' => if (P.underlying s).isSome then some (.int k' (k'.wrap a)) else none | none => none) := Eq.trans rfl rfl
@[go_sem] theorem conv_str (s d : TypeId) : conv P s d (.str x) = if tyIs P s .string && tyIs P d .string then some (.str x) else none := Eq.trans rfl rfl
@[go_sem] theorem ext_tup (xs : List PV) (i : Nat) : ext (.tup xs) i = xs[i]? := Eq.trans rfl rfl
@[go_sem] theorem idx_str : idx P t (.str x) (.int k a) = (if tyIs P t .string && decide (0 ≤ a) then match x[a.toNat]? with | some c => some (.int .u8 c.toNat) | none => none else none) := Eq.trans rfl rfl
end

/- memory -/
section
variable (P : Program) (t : TypeId) (K : Nat → TS)
def ldc (o : Option (Bool × Nat)) (xs : List PV) (off : Nat) : Option PV := match o with
  | some (true, s) => if off + s ≤ xs.length then some (.agg (sub xs off s)) else none
  | some (false, _) => xs[off]?
  | none => none
@[go_sem] theorem ldc_agg (s : Nat) (xs : List PV) (off : Nat) : ldc (some (true, s)) xs off = if off + s ≤ xs.length then some (.agg (sub xs off s)) else none := Eq.trans rfl rfl
@[go_sem] theorem ldc_one (s : Nat) (xs : List PV) (off : Nat) : ldc (some (false, s)) xs off = xs[off]? := Eq.trans rfl rfl
@[go_sem] theorem ld_pro (xs : List PV) (off : Nat) : ld P K t (.pro xs off) = ldc (tyAgg P t) xs off := by
  simp only [ld, view, ldc]; cases tyAgg P t with | none => rfl | some x => obtain ⟨b, s⟩ := x; cases b <;> rfl
def ldb (o : Option (Bool × Nat)) (off : Nat) : TS → Option PV | .live (.box xs _) => ldc o xs off | _ => none
@[go_sem] theorem ldb_box (o : Option (Bool × Nat)) (off : Nat) (xs : List PV) (wr : Bool) : ldb o off (.live (.box xs wr)) = ldc o xs off := Eq.trans rfl rfl
@[go_sem] theorem ld_ptr (tn off : Nat) : ld P K t (.ptr tn off) = ldb (tyAgg P t) off (K tn) := by
  simp only [ld, view, ldb]
  cases K tn with
  | live tk => cases tk with
    | box xs wr => simp only [ldc]; cases tyAgg P t with | none => rfl | some x => obtain ⟨b, s⟩ := x; cases b <;> rfl
    | _ => cases tyAgg P t with | none => rfl | some x => rfl
  | _ => cases tyAgg P t with | none => rfl | some x => rfl
def lde (o : Option (Bool × Nat)) (sz i off : Nat) : TS → Option PV | .live (.row _ sz' es _) => if sz = sz' then match es[i]? with | some x => ldc o x off | none => none else none | _ => none
@[go_sem] theorem lde_row (o : Option (Bool × Nat)) (sz i off : Nat) (e : TypeId) (sz' : Nat) (es : List (List PV)) (wr : Bool) : lde o sz i off (.live (.row e sz' es wr)) = if sz = sz' then match es[i]? with | some x => ldc o x off | none => none else none := Eq.trans rfl rfl
@[go_sem] theorem ld_ep (tn sz i off : Nat) : ld P K t (.ep tn sz i off) = lde (tyAgg P t) sz i off (K tn) := by
  simp only [ld, view, lde]
  cases K tn with
  | live tk => cases tk with
    | row e sz' es wr =>
      simp only
      by_cases h : sz = sz'
      · simp only [h, if_true]
        cases es[i]? with
        | none => cases tyAgg P t with | none => rfl | some x => rfl
        | some y => simp only [ldc]; cases tyAgg P t with | none => rfl | some x => obtain ⟨b, s⟩ := x; cases b <;> rfl
      · simp only [if_neg h]; try (cases tyAgg P t <;> rfl)
    | _ => cases tyAgg P t with | none => rfl | some x => rfl
  | _ => cases tyAgg P t with | none => rfl | some x => rfl
@[go_sem] theorem fa_pro (f : Nat) (xs : List PV) (off : Nat) : fa P t f (.pro xs off) = (tyField P t f).map fun o => .pro xs (off + o) := Eq.trans rfl rfl
@[go_sem] theorem fa_ptr (f tn off : Nat) : fa P t f (.ptr tn off) = (tyField P t f).map fun o => .ptr tn (off + o) := Eq.trans rfl rfl
@[go_sem] theorem fa_ep (f tn sz i off : Nat) : fa P t f (.ep tn sz i off) = (tyField P t f).map fun o => .ep tn sz i (off + o) := Eq.trans rfl rfl
def iac (o : Option (TypeId × Nat)) (es : List (List PV)) (i : Int) : Option PV := match o with
  | some (_, sz) => if 0 ≤ i then match es[i.toNat]? with | some c => if c.length = sz then some (.pro c 0) else none | none => none else none
  | none => none
@[go_sem] theorem iac_some (e : TypeId) (sz : Nat) (es : List (List PV)) (i : Int) : iac (some (e, sz)) es i = if 0 ≤ i then match es[i.toNat]? with | some c => if c.length = sz then some (.pro c 0) else none | none => none else none := Eq.trans rfl rfl
@[go_sem] theorem ia_sl (es : List (List PV)) (kd : IntKind) (i : Int) : ia P t (.sl es) (.int kd i) = iac (tyElem P t) es i := by
  simp only [ia, iac]
  cases tyElem P t with
  | none => rfl
  | some x => rfl
def iar (o : Option (TypeId × Nat)) (tk sz lo n : Nat) (i : Int) : Option PV := match o with
  | some (_, sz') => if 0 ≤ i ∧ i < n ∧ sz = sz' then some (.ep tk sz (lo + i.toNat) 0) else none
  | none => none
@[go_sem] theorem iar_some (e : TypeId) (sz' tk sz lo n : Nat) (i : Int) : iar (some (e, sz')) tk sz lo n i = if 0 ≤ i ∧ i < n ∧ sz = sz' then some (.ep tk sz (lo + i.toNat) 0) else none := Eq.trans rfl rfl
@[go_sem] theorem ia_ref (tk sz lo n : Nat) (kd : IntKind) (i : Int) : ia P t (.ref tk sz lo n) (.int kd i) = iar (tyElem P t) tk sz lo n i := by
  simp only [ia, iar]
  cases tyElem P t with
  | none => rfl
  | some x => rfl
@[go_sem] theorem len_str (x : List UInt8) : vlen P K t (.str x) = if tyIs P t .string then some (.int .i64 x.length) else none := Eq.trans rfl rfl
@[go_sem] theorem len_sl (es : List (List PV)) : vlen P K t (.sl es) = if (tyElem P t).isSome then some (.int .i64 es.length) else none := Eq.trans rfl rfl
@[go_sem] theorem len_nils : vlen P K t .nils = if (tyElem P t).isSome then some (.int .i64 0) else none := Eq.trans rfl rfl
@[go_sem] theorem len_ref (tk sz lo n : Nat) : vlen P K t (.ref tk sz lo n) = if (tyElem P t).isSome && isLive K tk then some (.int .i64 n) else none := Eq.trans rfl rfl
end
/- operations -/
section
variable (P : Program) (n : Nat) (ds : List (Option Tmp)) (nb : Nat) (dst : Option Tmp) (ty : TypeId) (pos : String) (af : Array Edge) (gd : Option (Nat × Bool)) (σ : St) (K : St → Fp → Prop)
theorem VOn_pure (op : Op) (h : opK op = .pure) : VO P n ds nb ⟨dst, op, ty, pos, af, gd⟩ σ K = (dstOk n dst = true ∧ gK ds gd σ fun g pre => (g = true → vgood σ op = true) ∧ gvk g (vop P σ op) fun v => K (σ.put dst (.mk g v)) (fpO pre σ op)) := by
  simp only [VO, h]
  cases gd with
  | none => simp only [gK, gvk_true, vk, forall_const, mk_true']; cases vop P σ op <;> rfl
  | some x =>
    obtain ⟨j, w⟩ := x
    simp only [gK]
    cases gslot ds j with
    | none => rfl
    | some t =>
      simp only [gvk]
      cases vop P σ op with
      | some v => rfl
      | none =>
        simp only
        cases gb w (σ.g t) with
        | true => simp
        | false => rfl
theorem VOn_eff (op : Op) (h : opK op = .eff) : VO P n ds nb ⟨dst, op, ty, pos, af, gd⟩ σ K = (dstOk n dst = true ∧ gK ds gd σ fun g pre => geK g (VE P σ nb op fun v k f => K (St.put ⟨σ.g, k⟩ dst v) (fpE pre f)) (K (σ.put dst (.und .any)) ⟨pre, [], []⟩)) := by
  simp only [VO, h]
  cases gd with
  | none => simp only [gK, geK_true]; rfl
  | some x =>
    obtain ⟨j, w⟩ := x
    simp only [gK]
    cases gslot ds j with
    | none => rfl
    | some t => rfl
@[go_sem ↓] theorem VOn_call (f : Operand) (args : Array Operand) (tys : Array TypeId) : VO P n ds nb ⟨dst, .call ⟨.value f, args, tys⟩, ty, pos, af, gd⟩ σ K = (dstOk n dst = true ∧ gK ds gd σ fun g pre => (g = true → (σ.ev f).ok = true ∧ (args.toList.all fun x => (σ.ev x).ok) = true) ∧
    fnK (fun f' caps => callK P f' ((args.toList.map fun x => (σ.ev x).strip) ++ caps) (((args.toList.map fun x => (σ.ev x).strip) ++ caps).map (roS 4 σ.k)) (((args.toList.map fun x => (σ.ev x).strip) ++ caps).flatMap (deS 4 σ.k)) ((Call.operands ⟨.value f, args, tys⟩).toList.flatMap slotOf) g σ.k (fun r k f => K (St.put ⟨σ.g, k⟩ dst r) (fpE pre f)) (esC P σ g ⟨.value f, args, tys⟩ fun r k f => K (St.put ⟨σ.g, k⟩ dst r) (fpE pre f))) (σ.ev f).strip) := by
  have hops : ∀ g : Bool, ((g = true → ((Call.operands ⟨.value f, args, tys⟩).toList.all fun x => (σ.ev x).ok) = true)) = (g = true → (σ.ev f).ok = true ∧ (args.toList.all fun x => (σ.ev x).ok) = true) := by
    intro g; simp [Call.operands]
  have key : ∀ (g : Bool) (pre : List Nat), (VC P σ g ⟨.value f, args, tys⟩ fun r k f => K (St.put ⟨σ.g, k⟩ dst r) (fpE pre f)) = ((g = true → (σ.ev f).ok = true ∧ (args.toList.all fun x => (σ.ev x).ok) = true) ∧
      fnK (fun f' caps => callK P f' ((args.toList.map fun x => (σ.ev x).strip) ++ caps) (((args.toList.map fun x => (σ.ev x).strip) ++ caps).map (roS 4 σ.k)) (((args.toList.map fun x => (σ.ev x).strip) ++ caps).flatMap (deS 4 σ.k)) ((Call.operands ⟨.value f, args, tys⟩).toList.flatMap slotOf) g σ.k (fun r k f => K (St.put ⟨σ.g, k⟩ dst r) (fpE pre f)) (esC P σ g ⟨.value f, args, tys⟩ fun r k f => K (St.put ⟨σ.g, k⟩ dst r) (fpE pre f))) (σ.ev f).strip) := by
    intro g pre
    rw [← hops]
    simp only [VC, VC1, VC2, VC3, callOf]
    cases hs : (σ.ev f).strip with
    | fn f' caps =>
      simp only [fnK, callK]
      apply propext
      constructor
      · rintro (⟨r, h1, h2⟩ | ⟨M, D, as, r, K1, ⟨h1, h2, h3⟩, h4⟩ | ⟨h1, h2, h3⟩)
        · exact ⟨fun hg => (h1 hg).1, .inl ⟨r, fun hg => (h1 hg).2, h2⟩⟩
        · exact ⟨fun _ => h2, .inr (.inl ⟨M, D, as, r, K1, ⟨h1, h3⟩, h4⟩)⟩
        · exact ⟨fun _ => h2, .inr (.inr ⟨h1, h3⟩)⟩
      · rintro ⟨h0, ⟨r, h1, h2⟩ | ⟨M, D, as, r, K1, ⟨h1, h2⟩, h3⟩ | ⟨h1, h2⟩⟩
        · exact .inl ⟨r, fun hg => ⟨h0 hg, h1 hg⟩, h2⟩
        · exact .inr (.inl ⟨M, D, as, r, K1, ⟨h1, h0 h1, h2⟩, h3⟩)
        · exact .inr (.inr ⟨h1, h0 h1, h2⟩)
    | _ => simp [fnK]
  have hk : opK (.call ⟨.value f, args, tys⟩) = .call ⟨.value f, args, tys⟩ := rfl
  simp only [VO, hk]
  cases gd with
  | none =>
    show (dstOk n dst = true ∧ VC P σ true _ _) = (dstOk n dst = true ∧ _)
    exact congrArg (fun x => (dstOk n dst = true ∧ x)) (key true [])
  | some x =>
    obtain ⟨j, w⟩ := x
    simp only [gK]
    cases gslot ds j with
    | none => rfl
    | some t => exact congrArg (fun x => (dstOk n dst = true ∧ isB (σ.g t) = true ∧ x)) (key _ [t])

@[go_sem ↓] theorem VOn_move (x : Operand) : VO P n ds nb ⟨dst, .move x, ty, pos, af, gd⟩ σ K = (dstOk n dst = true ∧ gK ds gd σ fun g pre => (g = true → (σ.ev x).ok = true) ∧ gvk g (some (σ.ev x).strip) fun v => K (σ.put dst (.mk g v)) (fpO pre σ (.move x))) := by
  rw [VOn_pure _ _ _ _ _ _ _ _ _ _ _ _ rfl]
  refine congrArg (fun F => (dstOk n dst = true ∧ gK ds gd σ F)) (funext fun g => funext fun pre => ?_)
  simp [vgood, vop, Op.operands, Call.operands, List.all_map, Function.comp_def]
@[go_sem ↓] theorem VOn_assign (x : Operand) : VO P n ds nb ⟨dst, .assign x, ty, pos, af, gd⟩ σ K = (dstOk n dst = true ∧ gK ds gd σ fun g pre => (g = true → (σ.ev x).ok = true) ∧ gvk g (some (σ.ev x).strip) fun v => K (σ.put dst (.mk g v)) (fpO pre σ (.assign x))) := by
  rw [VOn_pure _ _ _ _ _ _ _ _ _ _ _ _ rfl]
  refine congrArg (fun F => (dstOk n dst = true ∧ gK ds gd σ F)) (funext fun g => funext fun pre => ?_)
  simp [vgood, vop, Op.operands, Call.operands, List.all_map, Function.comp_def]
@[go_sem ↓] theorem VOn_binOp (op : BinOp) (t t' : TypeId) (x y : Operand) : VO P n ds nb ⟨dst, .binOp op t x y t', ty, pos, af, gd⟩ σ K = (dstOk n dst = true ∧ gK ds gd σ fun g pre => (g = true → (σ.ev x).ok = true ∧ (σ.ev y).ok = true) ∧ gvk g (bin P op t (σ.ev x).strip (σ.ev y).strip) fun v => K (σ.put dst (.mk g v)) (fpO pre σ (.binOp op t x y t'))) := by
  rw [VOn_pure _ _ _ _ _ _ _ _ _ _ _ _ rfl]
  refine congrArg (fun F => (dstOk n dst = true ∧ gK ds gd σ F)) (funext fun g => funext fun pre => ?_)
  simp [vgood, vop, Op.operands, Call.operands, List.all_map, Function.comp_def]
@[go_sem ↓] theorem VOn_unOp (op : UnOp) (t : TypeId) (x : Operand) : VO P n ds nb ⟨dst, .unOp op t x, ty, pos, af, gd⟩ σ K = (dstOk n dst = true ∧ gK ds gd σ fun g pre => (g = true → (σ.ev x).ok = true) ∧ gvk g (un op (σ.ev x).strip) fun v => K (σ.put dst (.mk g v)) (fpO pre σ (.unOp op t x))) := by
  rw [VOn_pure _ _ _ _ _ _ _ _ _ _ _ _ rfl]
  refine congrArg (fun F => (dstOk n dst = true ∧ gK ds gd σ F)) (funext fun g => funext fun pre => ?_)
  simp [vgood, vop, Op.operands, Call.operands, List.all_map, Function.comp_def]
@[go_sem ↓] theorem VOn_convert (s t : TypeId) (x : Operand) : VO P n ds nb ⟨dst, .convert s t x, ty, pos, af, gd⟩ σ K = (dstOk n dst = true ∧ gK ds gd σ fun g pre => (g = true → (σ.ev x).ok = true) ∧ gvk g (conv P s t (σ.ev x).strip) fun v => K (σ.put dst (.mk g v)) (fpO pre σ (.convert s t x))) := by
  rw [VOn_pure _ _ _ _ _ _ _ _ _ _ _ _ rfl]
  refine congrArg (fun F => (dstOk n dst = true ∧ gK ds gd σ F)) (funext fun g => funext fun pre => ?_)
  simp [vgood, vop, Op.operands, Call.operands, List.all_map, Function.comp_def]
@[go_sem ↓] theorem VOn_extract (x : Operand) (i : Nat) : VO P n ds nb ⟨dst, .extract x i, ty, pos, af, gd⟩ σ K = (dstOk n dst = true ∧ gK ds gd σ fun g pre => (g = true → (σ.ev x).ok = true) ∧ gvk g (ext (σ.ev x).strip i) fun v => K (σ.put dst (.mk g v)) (fpO pre σ (.extract x i))) := by
  rw [VOn_pure _ _ _ _ _ _ _ _ _ _ _ _ rfl]
  refine congrArg (fun F => (dstOk n dst = true ∧ gK ds gd σ F)) (funext fun g => funext fun pre => ?_)
  simp [vgood, vop, Op.operands, Call.operands, List.all_map, Function.comp_def]
@[go_sem ↓] theorem VOn_index (t : TypeId) (x i : Operand) : VO P n ds nb ⟨dst, .index t x i, ty, pos, af, gd⟩ σ K = (dstOk n dst = true ∧ gK ds gd σ fun g pre => (g = true → (σ.ev x).ok = true ∧ (σ.ev i).ok = true) ∧ gvk g (idx P t (σ.ev x).strip (σ.ev i).strip) fun v => K (σ.put dst (.mk g v)) (fpO pre σ (.index t x i))) := by
  rw [VOn_pure _ _ _ _ _ _ _ _ _ _ _ _ rfl]
  refine congrArg (fun F => (dstOk n dst = true ∧ gK ds gd σ F)) (funext fun g => funext fun pre => ?_)
  simp [vgood, vop, Op.operands, Call.operands, List.all_map, Function.comp_def]
@[go_sem ↓] theorem VOn_load (t : TypeId) (x : Operand) : VO P n ds nb ⟨dst, .load t x, ty, pos, af, gd⟩ σ K = (dstOk n dst = true ∧ gK ds gd σ fun g pre => (g = true → (σ.ev x).ok = true) ∧ gvk g (ld P σ.k t (σ.ev x).strip) fun v => K (σ.put dst (.mk g v)) (fpO pre σ (.load t x))) := by
  rw [VOn_pure _ _ _ _ _ _ _ _ _ _ _ _ rfl]
  refine congrArg (fun F => (dstOk n dst = true ∧ gK ds gd σ F)) (funext fun g => funext fun pre => ?_)
  simp [vgood, vop, Op.operands, Call.operands, List.all_map, Function.comp_def]
@[go_sem ↓] theorem VOn_fieldAddr (t : TypeId) (x : Operand) (f : Nat) : VO P n ds nb ⟨dst, .fieldAddr t x f, ty, pos, af, gd⟩ σ K = (dstOk n dst = true ∧ gK ds gd σ fun g pre => (g = true → (σ.ev x).ok = true) ∧ gvk g (if ptLive σ.k (σ.ev x).strip then fa P t f (σ.ev x).strip else none) fun v => K (σ.put dst (.mk g v)) (fpO pre σ (.fieldAddr t x f))) := by
  rw [VOn_pure _ _ _ _ _ _ _ _ _ _ _ _ rfl]
  refine congrArg (fun F => (dstOk n dst = true ∧ gK ds gd σ F)) (funext fun g => funext fun pre => ?_)
  simp [vgood, vop, Op.operands, Call.operands, List.all_map, Function.comp_def]
@[go_sem ↓] theorem VOn_indexAddr (t : TypeId) (x i : Operand) : VO P n ds nb ⟨dst, .indexAddr t x i, ty, pos, af, gd⟩ σ K = (dstOk n dst = true ∧ gK ds gd σ fun g pre => (g = true → (σ.ev x).ok = true ∧ (σ.ev i).ok = true) ∧ gvk g (if refLive σ.k (σ.ev x).strip then ia P t (σ.ev x).strip (σ.ev i).strip else none) fun v => K (σ.put dst (.mk g v)) (fpO pre σ (.indexAddr t x i))) := by
  rw [VOn_pure _ _ _ _ _ _ _ _ _ _ _ _ rfl]
  refine congrArg (fun F => (dstOk n dst = true ∧ gK ds gd σ F)) (funext fun g => funext fun pre => ?_)
  simp [vgood, vop, Op.operands, Call.operands, List.all_map, Function.comp_def]
@[go_sem ↓] theorem VOn_build (t : TypeId) (ps : Array (Nat × Operand)) : VO P n ds nb ⟨dst, .build t ps, ty, pos, af, gd⟩ σ K = (dstOk n dst = true ∧ gK ds gd σ fun g pre => (g = true → (ps.toList.all fun p => (σ.ev p.2).ok) = true) ∧ gvk g (if (ps.toList.all fun p => ((σ.ev p.2).strip).oks σ.k) then bld P t (ps.toList.map fun p => (p.1, (σ.ev p.2).strip)) else none) fun v => K (σ.put dst (.mk g v)) (fpO pre σ (.build t ps))) := by
  rw [VOn_pure _ _ _ _ _ _ _ _ _ _ _ _ rfl]
  refine congrArg (fun F => (dstOk n dst = true ∧ gK ds gd σ F)) (funext fun g => funext fun pre => ?_)
  simp [vgood, vop, Op.operands, Call.operands, List.all_map, Function.comp_def]
@[go_sem ↓] theorem VOn_makeFunc (f : FuncId) (cs : Array Operand) : VO P n ds nb ⟨dst, .makeFunc (.func f) #[] cs, ty, pos, af, gd⟩ σ K = (dstOk n dst = true ∧ gK ds gd σ fun g pre => (g = true → (cs.toList.all fun x => (σ.ev x).ok) = true) ∧ gvk g (some (.fn f (cs.toList.map fun x => (σ.ev x).strip))) fun v => K (σ.put dst (.mk g v)) (fpO pre σ (.makeFunc (.func f) #[] cs))) := by
  rw [VOn_pure _ _ _ _ _ _ _ _ _ _ _ _ rfl]
  refine congrArg (fun F => (dstOk n dst = true ∧ gK ds gd σ F)) (funext fun g => funext fun pre => ?_)
  simp [vgood, vop, Op.operands, Call.operands, List.all_map, Function.comp_def]
@[go_sem ↓] theorem VOn_len (x : Operand) (t : TypeId) : VO P n ds nb ⟨dst, .call ⟨.builtin .len, #[x], #[t]⟩, ty, pos, af, gd⟩ σ K = (dstOk n dst = true ∧ gK ds gd σ fun g pre => (g = true → (σ.ev x).ok = true) ∧ gvk g (vlen P σ.k t (σ.ev x).strip) fun v => K (σ.put dst (.mk g v)) (fpO pre σ (.call ⟨.builtin .len, #[x], #[t]⟩))) := by
  rw [VOn_pure _ _ _ _ _ _ _ _ _ _ _ _ rfl]
  refine congrArg (fun F => (dstOk n dst = true ∧ gK ds gd σ F)) (funext fun g => funext fun pre => ?_)
  simp [vgood, vop, Op.operands, Call.operands, List.all_map, Function.comp_def]
def pickO (c x y : PV) : Option PV := match c with | .bool t => some (psel t x y) | _ => none
def pickK (g : Bool) (G : Bool → Prop) (F : PV → Prop) (c x y : PV) (_t : Tg (G, F) := .mk) : Prop := match c with | .bool t => (g = true → G t) ∧ F (psel t x y) | _ => g = false ∧ F .any
@[go_sem ↓] theorem pickK_bool (g : Bool) (G : Bool → Prop) (F : PV → Prop) (x y : PV) (t : Bool) : pickK g G F (.bool t) x y = ((g = true → G t) ∧ F (psel t x y)) := Eq.trans rfl rfl
@[go_sem ↓ low] theorem pickK_false (G : Bool → Prop) (F : PV → Prop) (c x y : PV) : pickK false G F c x y = F (opq (pickO c x y)) := by cases c <;> simp [pickK, opq, pickO]
@[go_sem ↓] theorem VOn_pick (c x y : Operand) : VO P n ds nb ⟨dst, .pick c x y, ty, pos, af, gd⟩ σ K = (dstOk n dst = true ∧ gK ds gd σ fun g pre => pickK g (fun t => (σ.ev c).ok = true ∧ (t = true → (σ.ev x).ok = true) ∧ (t = false → (σ.ev y).ok = true)) (fun v => K (σ.put dst (.mk g v)) (fpO pre σ (.pick c x y))) (σ.ev c).strip (σ.ev x).strip (σ.ev y).strip) := by
  rw [VOn_pure _ _ _ _ _ _ _ _ _ _ _ _ rfl]
  refine congrArg (fun F => (dstOk n dst = true ∧ gK ds gd σ F)) (funext fun g => funext fun pre => ?_)
  simp only [vgood, vop]
  cases hs : (σ.ev c).strip with
  | bool t => cases t <;> simp [pickK, gvk]
  | _ => cases g <;> simp [pickK, gvk]

@[go_sem ↓] theorem VOn_slice (t : TypeId) (x : Operand) (lo hi : Option Operand) : VO P n ds nb ⟨dst, .slice t x lo hi none, ty, pos, af, gd⟩ σ K = (dstOk n dst = true ∧ gK ds gd σ fun g pre => (g = true → vgood σ (.slice t x lo hi none) = true) ∧ gvk g (vop P σ (.slice t x lo hi none)) fun v => K (σ.put dst (.mk g v)) (fpO pre σ (.slice t x lo hi none))) :=
  VOn_pure _ _ _ _ _ _ _ _ _ _ _ _ rfl
@[go_sem] theorem vgood_slice (t : TypeId) (x : Operand) (lo hi : Option Operand) : vgood σ (.slice t x lo hi none) = ((σ.ev x).ok && (match lo with | some y => (σ.ev y).ok | none => true) && (match hi with | some y => (σ.ev y).ok | none => true)) := by
  cases lo <;> cases hi <;> simp [vgood, Op.operands, Bool.and_assoc]
def slcK (P : Program) (k : Nat → TS) (t : TypeId) (x : PV) (lo hi : Option PV) : Option PV := match x with
  | .str s => cut P t (.str s) lo hi
  | z => slK P k t z lo hi
@[go_sem] theorem vop_slice (t : TypeId) (x : Operand) (lo hi : Option Operand) : vop P σ (.slice t x lo hi none) = slcK P σ.k t (σ.ev x).strip (lo.map fun y => (σ.ev y).strip) (hi.map fun y => (σ.ev y).strip) := by
  simp only [vop, slcK]; cases (σ.ev x).strip <;> rfl
variable (k : Nat → TS) (t : TypeId)
@[go_sem] theorem slcK_str (s : List UInt8) (lo hi : Option PV) : slcK P k t (.str s) lo hi = cut P t (.str s) lo hi := Eq.trans rfl rfl
@[go_sem] theorem slcK_sl (es : List (List PV)) (lo hi : Option PV) : slcK P k t (.sl es) lo hi = sla P t (.sl es) lo hi := by simp [slcK, slK, arrOf, refLive]
def slr (P : Program) (t : TypeId) (tk sz l m : Nat) (lo hi : Option PV) : TS → Option PV
  | .live (.arr _ sz' es) => if sz = sz' then slaA P t es.length (.ref tk sz l m) lo hi else sla P t (.ref tk sz l m) lo hi
  | .live _ => sla P t (.ref tk sz l m) lo hi
  | _ => none
@[go_sem] theorem slr_row (tk sz l m : Nat) (lo hi : Option PV) (e : TypeId) (sz' : Nat) (es : List (List PV)) (wr : Bool) : slr P t tk sz l m lo hi (.live (.row e sz' es wr)) = sla P t (.ref tk sz l m) lo hi := Eq.trans rfl rfl
@[go_sem] theorem slr_arr (tk sz l m : Nat) (lo hi : Option PV) (e : TypeId) (sz' : Nat) (es : List (List PV)) : slr P t tk sz l m lo hi (.live (.arr e sz' es)) = if sz = sz' then slaA P t es.length (.ref tk sz l m) lo hi else sla P t (.ref tk sz l m) lo hi := Eq.trans rfl rfl
@[go_sem] theorem slcK_ref (tk sz l m : Nat) (lo hi : Option PV) : slcK P k t (.ref tk sz l m) lo hi = slr P t tk sz l m lo hi (k tk) := by
  cases hk : k tk with
  | live x => cases x with
    | arr e sz' es => by_cases h : sz = sz' <;> simp [slcK, slK, arrOf, slr, refLive, isLive, hk, h]
    | _ => simp [slcK, slK, arrOf, slr, refLive, isLive, hk]
  | _ => simp [slcK, slK, arrOf, slr, refLive, isLive, hk]
@[go_sem] theorem cut_00 (s : List UInt8) : cut P t (.str s) none none = if tyIs P t .string then some (.str s) else none := Eq.trans rfl rfl
@[go_sem] theorem cut_10 (s : List UInt8) (kd : IntKind) (i : Int) : cut P t (.str s) (some (.int kd i)) none = if tyIs P t .string ∧ 0 ≤ i ∧ i ≤ s.length then some (.str (s.drop i.toNat)) else none := Eq.trans rfl rfl
@[go_sem] theorem cut_01 (s : List UInt8) (kd : IntKind) (j : Int) : cut P t (.str s) none (some (.int kd j)) = if tyIs P t .string ∧ 0 ≤ j ∧ j ≤ s.length then some (.str (s.take j.toNat)) else none := Eq.trans rfl rfl
@[go_sem] theorem cut_11 (s : List UInt8) (kd kd' : IntKind) (i j : Int) : cut P t (.str s) (some (.int kd i)) (some (.int kd' j)) = if tyIs P t .string ∧ 0 ≤ j ∧ j ≤ s.length ∧ 0 ≤ i ∧ i ≤ j then some (.str ((s.take j.toNat).drop i.toNat)) else none := Eq.trans rfl rfl
attribute [go_sem] sla bnd slaA bndA
@[go_sem] theorem bin_any1 (op : BinOp) (y : PV) : bin P op t .any y = none := by cases y <;> first | rfl | (rw [bin_nils]; cases op <;> simp [isNilP])
@[go_sem] theorem bin_any2 (op : BinOp) (x : PV) : bin P op t x .any = none := by cases x <;> simp [bin]
@[go_sem] theorem un_any (op : UnOp) : un op .any = none := by simp [un]
@[go_sem] theorem conv_any (d : TypeId) : conv P t d .any = none := by simp [conv]
@[go_sem] theorem ext_any (i : Nat) : ext .any i = none := by simp [ext]
@[go_sem] theorem idx_any1 (y : PV) : idx P t .any y = none := by simp [idx]
@[go_sem] theorem idx_any2 (x : PV) : idx P t x .any = none := by cases x <;> simp [idx]
@[go_sem] theorem ld_any : ld P k t .any = none := by simp [ld, view]
@[go_sem] theorem fa_any (f : Nat) : fa P t f .any = none := by simp [fa]
@[go_sem] theorem ia_any1 (y : PV) : ia P t .any y = none := by simp [ia]
@[go_sem] theorem ia_any2 (x : PV) : ia P t x .any = none := by cases x <;> simp [ia]
@[go_sem] theorem len_any : vlen P k t .any = none := by simp [vlen]
@[go_sem] theorem slcK_any (lo hi : Option PV) : slcK P k t .any lo hi = none := by simp [slcK, slK, arrOf, sla, refLive]
@[go_sem] theorem strip_any : PV.strip .any = .any := Eq.trans rfl rfl
@[go_sem] theorem ok_any : PV.ok .any = true := Eq.trans rfl rfl
@[go_sem] theorem ptLive_any : ptLive k .any = true := rfl
@[go_sem] theorem refLive_any : refLive k .any = true := rfl
/- memory is made or written -/
@[go_sem ↓] theorem VOn_alloc (e : TypeId) : VO P n ds nb ⟨dst, .alloc e, ty, pos, af, gd⟩ σ K = (dstOk n dst = true ∧ gK ds gd σ fun g pre => geK g (freshK (σ.k nb) ∧ (match tyZero P e with | some xs => K (St.put ⟨σ.g, upd σ.k nb (.live (.box xs true))⟩ dst (.ptr nb 0)) (fpE pre ⟨[], [], [nb]⟩) | none => False)) (K (σ.put dst (.und .any)) ⟨pre, [], []⟩)) :=
  VOn_eff _ _ _ _ _ _ _ _ _ _ _ _ rfl
@[go_sem ↓] theorem VOn_box (e : TypeId) (x : Operand) : VO P n ds nb ⟨dst, .box e x, ty, pos, af, gd⟩ σ K = (dstOk n dst = true ∧ gK ds gd σ fun g pre => geK g (freshK (σ.k nb) ∧ (σ.ev x).ok = true ∧ (σ.ev x).strip.oks σ.k = true ∧ K (St.put ⟨σ.g, upd σ.k nb (.live (.box (σ.ev x).strip.cells true))⟩ dst (.ptr nb 0)) (fpE pre ⟨slotOf x, (σ.ev x).strip.nm, [nb]⟩)) (K (σ.put dst (.und .any)) ⟨pre, [], []⟩)) :=
  VOn_eff _ _ _ _ _ _ _ _ _ _ _ _ rfl
def stK (o : Option (Nat × Tok)) (F : Nat → Tok → Prop) (_t : Tg F := .mk) : Prop := match o with | some (tn, tk) => F tn tk | none => False
@[go_sem ↓] theorem stK_some (tn : Nat) (tk : Tok) (F : Nat → Tok → Prop) : stK (some (tn, tk)) F = F tn tk := Eq.trans rfl rfl
@[go_sem ↓] theorem VOn_store (e : TypeId) (p x : Operand) : VO P n ds nb ⟨dst, .store e p x, ty, pos, af, gd⟩ σ K = (dstOk n dst = true ∧ gK ds gd σ fun g pre => geK g ((σ.ev p).ok = true ∧ (σ.ev x).ok = true ∧ (σ.ev x).strip.oks σ.k = true ∧ stK (stv P σ.k e (σ.ev p).strip (σ.ev x).strip) fun tn tk => K (St.put ⟨σ.g, upd σ.k tn (.live tk)⟩ dst (.und .any)) (fpE pre ⟨slotOf p ++ slotOf x, (σ.ev x).strip.nm, [tn]⟩)) (K (σ.put dst (.und .any)) ⟨pre, [], []⟩)) := by
  rw [VOn_eff _ _ _ _ _ _ _ _ _ _ _ _ rfl]
  simp only [VE, stK]
  try congr
def stb (o : Option (Bool × Nat)) (tn off : Nat) (ys : List PV) : TS → Option (Nat × Tok) | .live (.box xs true) => (match o with | some (_, s) => if ys.length = s ∧ off + s ≤ xs.length then some (tn, .box (setR xs off ys) true) else none | none => none) | _ => none
@[go_sem] theorem stb_box (b : Bool) (s tn off : Nat) (ys xs : List PV) : stb (some (b, s)) tn off ys (.live (.box xs true)) = if ys.length = s ∧ off + s ≤ xs.length then some (tn, .box (setR xs off ys) true) else none := Eq.trans rfl rfl
@[go_sem] theorem stv_ptr (tn off : Nat) (x : PV) : stv P k t (.ptr tn off) x = stb (tyAgg P t) tn off x.cells (k tn) := by
  simp only [stv, stb]
  cases tyAgg P t with
  | none => cases k tn with
    | live tk => cases tk with
      | box xs wr => cases wr <;> rfl
      | _ => rfl
    | _ => rfl
  | some q => obtain ⟨b, s⟩ := q; rfl
def ste (o : Option (Bool × Nat)) (tn sz i off : Nat) (ys : List PV) : TS → Option (Nat × Tok) | .live (.row e sz' es true) => (match o with | some (_, s) => if sz = sz' then match es[i]? with | some c => if ys.length = s ∧ off + s ≤ c.length then some (tn, .row e sz (es.set i (setR c off ys)) true) else none | none => none else none | none => none) | _ => none
@[go_sem] theorem ste_row (b : Bool) (s tn sz i off : Nat) (ys : List PV) (e : TypeId) (sz' : Nat) (es : List (List PV)) : ste (some (b, s)) tn sz i off ys (.live (.row e sz' es true)) = if sz = sz' then match es[i]? with | some c => if ys.length = s ∧ off + s ≤ c.length then some (tn, .row e sz (es.set i (setR c off ys)) true) else none | none => none else none := Eq.trans rfl rfl
@[go_sem] theorem stv_ep (tn sz i off : Nat) (x : PV) : stv P k t (.ep tn sz i off) x = ste (tyAgg P t) tn sz i off x.cells (k tn) := by
  simp only [stv, ste]
  cases tyAgg P t with
  | none => cases k tn with
    | live tk => cases tk with
      | row e sz' es wr => cases wr <;> rfl
      | _ => rfl
    | _ => rfl
  | some q => obtain ⟨b, s⟩ := q; rfl
def bsK (o : Option (TypeId × Nat × List (List PV))) (F : TypeId → Nat → List (List PV) → Prop) (_t : Tg F := .mk) : Prop := match o with | some (e, sz, es) => F e sz es | none => False
@[go_sem ↓] theorem bsK_some (e : TypeId) (sz : Nat) (es : List (List PV)) (F : TypeId → Nat → List (List PV) → Prop) : bsK (some (e, sz, es)) F = F e sz es := Eq.trans rfl rfl
@[go_sem ↓] theorem VOn_buildSlice (e : TypeId) (len : Nat) (ps : Array (Nat × Operand)) : VO P n ds nb ⟨dst, .buildSlice e len ps, ty, pos, af, gd⟩ σ K = (dstOk n dst = true ∧ gK ds gd σ fun g pre => geK g (freshK (σ.k nb) ∧ (ps.toList.all fun p => (σ.ev p.2).ok) = true ∧
    bsK (bsl P σ.k e len (ps.toList.map fun p => (p.1, (σ.ev p.2).strip))) fun e sz es => K (St.put ⟨σ.g, upd σ.k nb (.live (.row e sz es true))⟩ dst (.ref nb sz 0 es.length)) (fpE pre ⟨ps.toList.flatMap fun p => slotOf p.2, ps.toList.flatMap fun p => (σ.ev p.2).strip.nm, [nb]⟩)) (K (σ.put dst (.und .any)) ⟨pre, [], []⟩)) := by
  rw [VOn_eff _ _ _ _ _ _ _ _ _ _ _ _ rfl]
  simp only [VE, bsK, freshK]
  try congr
def apK (o : Option (TypeId × Nat × Nat × List (List PV) × List (List PV) × Bool × Option Nat)) (F : TypeId → Nat → Nat → List (List PV) → List (List PV) → Bool → Option Nat → Prop) (E : Prop) (_t : Tg (F, E) := .mk) : Prop := match o with | some (e, sz, b, es, ys, wr, old) => F e sz b es ys wr old | none => E
@[go_sem ↓] theorem apK_some (e : TypeId) (sz b : Nat) (es ys : List (List PV)) (wr : Bool) (old : Option Nat) (F : TypeId → Nat → Nat → List (List PV) → List (List PV) → Bool → Option Nat → Prop) (E : Prop) : apK (some (e, sz, b, es, ys, wr, old)) F E = F e sz b es ys wr old := Eq.trans rfl rfl
@[go_sem ↓] theorem apK_none (F : TypeId → Nat → Nat → List (List PV) → List (List PV) → Bool → Option Nat → Prop) (E : Prop) : apK none F E = E := Eq.trans rfl rfl
@[go_sem ↓] theorem VOn_append (s x : Operand) (t t' : TypeId) : VO P n ds nb ⟨dst, .call ⟨.builtin .append, #[s, x], #[t, t']⟩, ty, pos, af, gd⟩ σ K = (dstOk n dst = true ∧ gK ds gd σ fun g pre => geK g (if t = t' then
    apK (apdC P σ.k t (σ.ev s).strip (σ.ev x).strip) (fun e sz b es ys wr old => freshK (σ.k nb) ∧ (σ.ev s).ok = true ∧ (σ.ev x).ok = true ∧ (es.length + ys.length) * b ≤ 140737488355328 ∧ K (St.put ⟨σ.g, apk σ.k old nb (.row e sz (es ++ ys) wr)⟩ dst (.ref nb sz 0 (es.length + ys.length))) (fpE pre ⟨slotOf s ++ slotOf x, (σ.ev x).strip.nm ++ ys.flatMap (fun y => y.flatMap PV.nm1), nb :: old.toList⟩))
      (escA P σ s (.call ⟨.builtin .append, #[s, x], #[t, t']⟩) fun v k f => K (St.put ⟨σ.g, k⟩ dst v) (fpE pre f))
    else escK P σ (.call ⟨.builtin .append, #[s, x], #[t, t']⟩) fun v k f => K (St.put ⟨σ.g, k⟩ dst v) (fpE pre f)) (K (σ.put dst (.und .any)) ⟨pre, [], []⟩)) := by
  rw [VOn_eff _ _ _ _ _ _ _ _ _ _ _ _ rfl]
  rfl
@[go_sem ↓] theorem VOn_copy (args : Array Operand) (tys : Array TypeId) : VO P n ds nb ⟨dst, .call ⟨.builtin .copy, args, tys⟩, ty, pos, af, gd⟩ σ K = (dstOk n dst = true ∧ gK ds gd σ fun g pre => geK g (escK P σ (.call ⟨.builtin .copy, args, tys⟩) fun v k f => K (St.put ⟨σ.g, k⟩ dst v) (fpE pre f)) (K (σ.put dst (.und .any)) ⟨pre, [], []⟩)) :=
  VOn_eff _ _ _ _ _ _ _ _ _ _ _ _ rfl
@[go_sem ↓] theorem VOn_cap (args : Array Operand) (tys : Array TypeId) : VO P n ds nb ⟨dst, .call ⟨.builtin .cap, args, tys⟩, ty, pos, af, gd⟩ σ K = (dstOk n dst = true ∧ gK ds gd σ fun g pre => geK g (escK P σ (.call ⟨.builtin .cap, args, tys⟩) fun v k f => K (St.put ⟨σ.g, k⟩ dst v) (fpE pre f)) (K (σ.put dst (.und .any)) ⟨pre, [], []⟩)) :=
  VOn_eff _ _ _ _ _ _ _ _ _ _ _ _ rfl
@[go_sem ↓] theorem VOn_clear (args : Array Operand) (tys : Array TypeId) : VO P n ds nb ⟨dst, .call ⟨.builtin .clear, args, tys⟩, ty, pos, af, gd⟩ σ K = (dstOk n dst = true ∧ gK ds gd σ fun g pre => geK g (escK P σ (.call ⟨.builtin .clear, args, tys⟩) fun v k f => K (St.put ⟨σ.g, k⟩ dst v) (fpE pre f)) (K (σ.put dst (.und .any)) ⟨pre, [], []⟩)) :=
  VOn_eff _ _ _ _ _ _ _ _ _ _ _ _ rfl
@[go_sem ↓] theorem VOn_min (args : Array Operand) (tys : Array TypeId) : VO P n ds nb ⟨dst, .call ⟨.builtin .min, args, tys⟩, ty, pos, af, gd⟩ σ K = (dstOk n dst = true ∧ gK ds gd σ fun g pre => geK g (escK P σ (.call ⟨.builtin .min, args, tys⟩) fun v k f => K (St.put ⟨σ.g, k⟩ dst v) (fpE pre f)) (K (σ.put dst (.und .any)) ⟨pre, [], []⟩)) :=
  VOn_eff _ _ _ _ _ _ _ _ _ _ _ _ rfl
@[go_sem ↓] theorem VOn_max (args : Array Operand) (tys : Array TypeId) : VO P n ds nb ⟨dst, .call ⟨.builtin .max, args, tys⟩, ty, pos, af, gd⟩ σ K = (dstOk n dst = true ∧ gK ds gd σ fun g pre => geK g (escK P σ (.call ⟨.builtin .max, args, tys⟩) fun v k f => K (St.put ⟨σ.g, k⟩ dst v) (fpE pre f)) (K (σ.put dst (.und .any)) ⟨pre, [], []⟩)) :=
  VOn_eff _ _ _ _ _ _ _ _ _ _ _ _ rfl
@[go_sem ↓] theorem VOn_slice3 (t : TypeId) (x : Operand) (lo hi : Option Operand) (m : Operand) : VO P n ds nb ⟨dst, .slice t x lo hi (some m), ty, pos, af, gd⟩ σ K = (dstOk n dst = true ∧ gK ds gd σ fun g pre => geK g (escK P σ (.slice t x lo hi (some m)) fun v k f => K (St.put ⟨σ.g, k⟩ dst v) (fpE pre f)) (K (σ.put dst (.und .any)) ⟨pre, [], []⟩)) :=
  VOn_eff _ _ _ _ _ _ _ _ _ _ _ _ rfl
@[go_sem ↓] theorem VOn_makeSlice (t : TypeId) (l c : Operand) : VO P n ds nb ⟨dst, .makeSlice t l c, ty, pos, af, gd⟩ σ K = (dstOk n dst = true ∧ gK ds gd σ fun g pre => geK g (escK P σ (.makeSlice t l c) fun v k f => K (St.put ⟨σ.g, k⟩ dst v) (fpE pre f)) (K (σ.put dst (.und .any)) ⟨pre, [], []⟩)) :=
  VOn_eff _ _ _ _ _ _ _ _ _ _ _ _ rfl
@[go_sem ↓] theorem VOn_makeMap (t : TypeId) (l : Option Operand) : VO P n ds nb ⟨dst, .makeMap t l, ty, pos, af, gd⟩ σ K = (dstOk n dst = true ∧ gK ds gd σ fun g pre => geK g (escK P σ (.makeMap t l) fun v k f => K (St.put ⟨σ.g, k⟩ dst v) (fpE pre f)) (K (σ.put dst (.und .any)) ⟨pre, [], []⟩)) :=
  VOn_eff _ _ _ _ _ _ _ _ _ _ _ _ rfl
@[go_sem ↓] theorem VOn_insert (t : TypeId) (a b c : Operand) : VO P n ds nb ⟨dst, .insert t a b c, ty, pos, af, gd⟩ σ K = (dstOk n dst = true ∧ gK ds gd σ fun g pre => geK g (escK P σ (.insert t a b c) fun v k f => K (St.put ⟨σ.g, k⟩ dst v) (fpE pre f)) (K (σ.put dst (.und .any)) ⟨pre, [], []⟩)) :=
  VOn_eff _ _ _ _ _ _ _ _ _ _ _ _ rfl
@[go_sem ↓] theorem VOn_mapUpdate (t : TypeId) (a b c : Operand) : VO P n ds nb ⟨dst, .mapUpdate t a b c, ty, pos, af, gd⟩ σ K = (dstOk n dst = true ∧ gK ds gd σ fun g pre => geK g (escK P σ (.mapUpdate t a b c) fun v k f => K (St.put ⟨σ.g, k⟩ dst v) (fpE pre f)) (K (σ.put dst (.und .any)) ⟨pre, [], []⟩)) :=
  VOn_eff _ _ _ _ _ _ _ _ _ _ _ _ rfl
@[go_sem ↓] theorem VOn_lookup (t : TypeId) (a b : Operand) (ok : Bool) : VO P n ds nb ⟨dst, .lookup t a b ok, ty, pos, af, gd⟩ σ K = (dstOk n dst = true ∧ gK ds gd σ fun g pre => geK g (escK P σ (.lookup t a b ok) fun v k f => K (St.put ⟨σ.g, k⟩ dst v) (fpE pre f)) (K (σ.put dst (.und .any)) ⟨pre, [], []⟩)) :=
  VOn_eff _ _ _ _ _ _ _ _ _ _ _ _ rfl
@[go_sem ↓] theorem VOn_field (t : TypeId) (a : Operand) (i : Nat) : VO P n ds nb ⟨dst, .field t a i, ty, pos, af, gd⟩ σ K = (dstOk n dst = true ∧ gK ds gd σ fun g pre => geK g (escK P σ (.field t a i) fun v k f => K (St.put ⟨σ.g, k⟩ dst v) (fpE pre f)) (K (σ.put dst (.und .any)) ⟨pre, [], []⟩)) :=
  VOn_eff _ _ _ _ _ _ _ _ _ _ _ _ rfl
end
attribute [go_sem] setR sub fpO fpE slotOf vopNm Op.operands Call.operands LeP Nms.ok Nms.inj Nms.lo Nms.wrs Tok.wrs argsX renT Tok.pure FinX mkSt dstOk apdC srcs apk bsl bld fillV resV resP FinV frz TS.frz
end Go.V
