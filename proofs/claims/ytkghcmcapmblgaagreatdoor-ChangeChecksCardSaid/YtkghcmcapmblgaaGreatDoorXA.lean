/- A part of the proof, merged out of smaller texts. Nothing is assumed. -/
import Derived.Calls
import Derived.RowKit
import Derived.KernelRfl
import Derived.Below
import Derived.Laws.AppendOwn
import Derived.Laws.Entries
import Derived.Laws.Cells
import Derived.ChangeKeysEq
import Derived.Laws.Strings
import Derived.Laws.StructEq
import Derived.Laws.Cover3
import Derived.Great.FillDense
import Derived.Great.BuildSlice
import Derived.Laws.MakeOwn
import Derived.Laws.OwnMore
set_option linter.all false
/- The value logic, part 1: values without memory, what they stand for in a world, and the state of one call. Nothing is assumed. -/
set_option linter.unusedVariables false
namespace Go.V
open Go.RowKit (Below)

/-- Values: numbers, bools, strings as lists of bytes, functions, slices that are read as lists of elements (each a list of cells), own rows and own variables by name. -/
inductive PV where
  | any
  | int (k : IntKind) (n : Int)
  | bool (b : Bool)
  | str (s : List UInt8)
  | nilp
  | nilfn
  | nili
  | nils
  | ifc (t : TypeId) (v : PV)
  | fn (f : FuncId) (caps : List PV)
  | sl (es : List (List PV))
  | pro (cells : List PV) (off : Nat)
  | agg (cells : List PV)
  | tup (vs : List PV)
  | und (v : PV)
  | ref (t sz lo n : Nat)
  | ptr (t off : Nat)
  | ep (t sz i off : Nat)
  | mp (t : Nat)
  | emp (nil : Bool)
  deriving Inhabited

/-- What memory of the call's own holds: a variable's cells, or a slice's row of elements; 'wr': may its content still be written. -/
inductive Tok where
  | box (cells : List PV) (wr : Bool)
  | row (e : TypeId) (sz : Nat) (es : List (List PV)) (wr : Bool)
  | map (m : List (PV × PV))
  | arr (e : TypeId) (sz : Nat) (es : List (List PV))

/-- A name's state: never used, no longer in use, in use. -/
inductive TS where
  | fresh
  | dead
  | live (tk : Tok)

/-- Where a name lies: nowhere (no longer in use), the nil slice, a place. -/
inductive Pl where
  | dead
  | nil
  | at (b : Nat)

/-- What a ref-free value stands for: read in cells that are of C alone. -/
inductive Rep0 (w : World) (C : Addr → Prop) : Value → PV → Prop
  | any (v : Value) : Rep0 w C v .any
  | int (k : IntKind) (n : Int) : Rep0 w C (.int k n) (.int k n)
  | bool (b : Bool) : Rep0 w C (.bool b) (.bool b)
  | str (s : ByteArray) (l : List UInt8) (h : s.data.toList = l) : Rep0 w C (.string s) (.str l)
  | nilp : Rep0 w C (.pointer none) .nilp
  | nilfn : Rep0 w C .nilFunc .nilfn
  | nili : Rep0 w C .nilIface .nili
  | nils : Rep0 w C (.slice none 0 0) .nils
  | ifc (t : TypeId) (v : Value) (x : PV) (h : Rep0 w C v x) : Rep0 w C (.iface t v) (.ifc t x)
  | fn (f : FuncId) (cs : Array Value) (xs : List PV) (hl : cs.size = xs.length) (h : ∀ (i : Nat) (v : Value) (x : PV), cs[i]? = some v → xs[i]? = some x → Rep0 w C v x) :
      Rep0 w C (.func (.func f) #[] cs) (.fn f xs)
  | sl0 (A : Option Addr) (c : Nat) : Rep0 w C (.slice A 0 c) (.sl [])
  | emp (A : Option Addr) (c : Nat) : Rep0 w C (.slice A 0 c) (.emp A.isNone)
  | sl (b o c n sz : Nat) (es : List (List PV)) (u : Nat → Nat → Value) (hn : n = es.length) (hpos : 0 < sz) (hc : es.length ≤ c) (hsz : ∀ e ∈ es, e.length = sz)
      (hcell : ∀ i j, i < es.length → j < sz → w.cell? ⟨b, o + i * sz + j, none⟩ = some (u i j))
      (hC : ∀ i j, i < es.length → j < sz → C ⟨b, o + i * sz + j, none⟩)
      (h : ∀ (i j : Nat) (e : List PV) (x : PV), es[i]? = some e → e[j]? = some x → Rep0 w C (u i j) x) :
      Rep0 w C (.slice (some ⟨b, o, none⟩) n c) (.sl es)
  | pro (b o off : Nat) (xs : List PV) (u : Nat → Value)
      (hcell : ∀ j, j < xs.length → w.cell? ⟨b, o + j, none⟩ = some (u j))
      (hC : ∀ j, j < xs.length → C ⟨b, o + j, none⟩)
      (h : ∀ (j : Nat) (x : PV), xs[j]? = some x → Rep0 w C (u j) x) :
      Rep0 w C (.pointer (some ⟨b, o + off, none⟩)) (.pro xs off)
  | agg (cs : Array Value) (xs : List PV) (hl : cs.size = xs.length) (h : ∀ (i : Nat) (v : Value) (x : PV), cs[i]? = some v → xs[i]? = some x → Rep0 w C v x) :
      Rep0 w C (.agg cs) (.agg xs)
  | tup (cs : Array Value) (xs : List PV) (hl : cs.size = xs.length) (h : ∀ (i : Nat) (v : Value) (x : PV), cs[i]? = some v → xs[i]? = some x → Rep0 w C v x) :
      Rep0 w C (.tuple cs) (.tup xs)

theorem Rep0.mono {w w' : World} {C C' : Addr → Prop} (hc : ∀ a v, C a → w.cell? a = some v → C' a ∧ w'.cell? a = some v) {v : Value} {x : PV} (h : Rep0 w C v x) : Rep0 w' C' v x := by
  induction h with
  | any v => exact .any v
  | int k n => exact .int k n
  | bool b => exact .bool b
  | str s l h => exact .str s l h
  | nilp => exact .nilp
  | nilfn => exact .nilfn
  | nili => exact .nili
  | nils => exact .nils
  | ifc t v x _ ih => exact .ifc t v x ih
  | fn f cs xs hl _ ih => exact .fn f cs xs hl ih
  | sl0 A c => exact .sl0 A c
  | emp A c => exact .emp A c
  | sl b o c n sz es u hn hpos hcap hsz hcell hC _ ih =>
    exact .sl b o c n sz es u hn hpos hcap hsz (fun i j hi hj => (hc _ _ (hC i j hi hj) (hcell i j hi hj)).2) (fun i j hi hj => (hc _ _ (hC i j hi hj) (hcell i j hi hj)).1) ih
  | pro b o off xs u hcell hC _ ih =>
    exact .pro b o off xs u (fun j hj => (hc _ _ (hC j hj) (hcell j hj)).2) (fun j hj => (hc _ _ (hC j hj) (hcell j hj)).1) ih
  | agg cs xs hl _ ih => exact .agg cs xs hl ih
  | tup cs xs hl _ ih => exact .tup cs xs hl ih

/-- What a value stands for where names are in use. -/
inductive RepV (w : World) (C : Addr → Prop) (μ : Nat → Option Pl) : Value → PV → Prop
  | base (v : Value) (x : PV) (h : Rep0 w C v x) : RepV w C μ v x
  | und (x : PV) : RepV w C μ undef (.und x)
  | fn (f : FuncId) (cs : Array Value) (xs : List PV) (hl : cs.size = xs.length) (h : ∀ (i : Nat) (v : Value) (x : PV), cs[i]? = some v → xs[i]? = some x → RepV w C μ v x) :
      RepV w C μ (.func (.func f) #[] cs) (.fn f xs)
  | agg (cs : Array Value) (xs : List PV) (hl : cs.size = xs.length) (h : ∀ (i : Nat) (v : Value) (x : PV), cs[i]? = some v → xs[i]? = some x → RepV w C μ v x) :
      RepV w C μ (.agg cs) (.agg xs)
  | tup (cs : Array Value) (xs : List PV) (hl : cs.size = xs.length) (h : ∀ (i : Nat) (v : Value) (x : PV), cs[i]? = some v → xs[i]? = some x → RepV w C μ v x) :
      RepV w C μ (.tuple cs) (.tup xs)
  | ref (t sz lo n : Nat) (v : Value) (hu : μ t ≠ none) (hn : μ t = some .nil → lo = 0 ∧ n = 0 ∧ v = .slice none 0 0)
      (hat : ∀ b, μ t = some (.at b) → ∃ A c, v = .slice A n c ∧ n ≤ c ∧ (c = 0 ∨ A = some ⟨b, lo * sz, none⟩) ∧ ∀ cs e fz, w.heap[b]? = some (.cells cs e fz) → (lo + c) * sz = cs.size) :
      RepV w C μ v (.ref t sz lo n)
  | ptr (t off : Nat) (v : Value) (hu : μ t ≠ none) (hn : μ t ≠ some .nil) (hat : ∀ b, μ t = some (.at b) → v = .pointer (some ⟨b, off, none⟩)) : RepV w C μ v (.ptr t off)
  | ep (t sz i off : Nat) (v : Value) (hu : μ t ≠ none) (hn : μ t ≠ some .nil) (hat : ∀ b, μ t = some (.at b) → v = .pointer (some ⟨b, i * sz + off, none⟩)) : RepV w C μ v (.ep t sz i off)
  | mp (t : Nat) (v : Value) (hu : μ t ≠ none) (hn : μ t ≠ some .nil) (hat : ∀ b, μ t = some (.at b) → v = .map (some b)) : RepV w C μ v (.mp t)

/-- A step of memory: cells of C stay, names that are still in use stay where they are, blocks keep their size. -/
structure Keeps (w w' : World) (C C' : Addr → Prop) (μ μ' : Nat → Option Pl) : Prop where
  cell : ∀ a v, C a → w.cell? a = some v → C' a ∧ w'.cell? a = some v
  used : ∀ t, μ t ≠ none → μ' t ≠ none
  name : ∀ t p, μ t ≠ none → μ' t = some p → p ≠ .dead → μ t = some p
  size : ∀ t b cs e fz, μ t = some (.at b) → μ' t = some (.at b) → w'.heap[b]? = some (.cells cs e fz) → ∃ cs' e' fz', w.heap[b]? = some (.cells cs' e' fz') ∧ cs'.size = cs.size

theorem RepV.mono {w w' : World} {C C' : Addr → Prop} {μ μ' : Nat → Option Pl} (K : Keeps w w' C C' μ μ') {v : Value} {x : PV} (h : RepV w C μ v x) : RepV w' C' μ' v x := by
  induction h with
  | base v x h => exact .base v x (h.mono K.cell)
  | und x => exact .und x
  | fn f cs xs hl _ ih => exact .fn f cs xs hl ih
  | agg cs xs hl _ ih => exact .agg cs xs hl ih
  | tup cs xs hl _ ih => exact .tup cs xs hl ih
  | ref t sz lo n v hu hn hat =>
    refine .ref t sz lo n v (K.used t hu) (fun h => hn (K.name t _ hu h (by simp))) (fun b h => ?_)
    obtain ⟨A, c, hv, hnc, hA, hcap⟩ := hat b (K.name t _ hu h (by simp))
    refine ⟨A, c, hv, hnc, hA, fun cs e fz hb => ?_⟩
    obtain ⟨cs', e', fz', hb', hs⟩ := K.size t b cs e fz (K.name t _ hu h (by simp)) h hb
    rw [← hs]; exact hcap _ _ _ hb'
  | ptr t off v hu hn hat => exact .ptr t off v (K.used t hu) (fun h => hn (K.name t _ hu h (by simp))) (fun b h => hat b (K.name t _ hu h (by simp)))
  | ep t sz i off v hu hn hat => exact .ep t sz i off v (K.used t hu) (fun h => hn (K.name t _ hu h (by simp))) (fun b h => hat b (K.name t _ hu h (by simp)))
  | mp t v hu hn hat => exact .mp t v (K.used t hu) (fun h => hn (K.name t _ hu h (by simp))) (fun b h => hat b (K.name t _ hu h (by simp)))

/-- The world and the cells that a call may read when it begins; the blocks that are lent to it. -/
structure Fr where
  w0 : World
  S : Addr → Prop
  lent : List Nat

/-- The state: what the slots hold, what the names hold. -/
structure St where
  g : Nat → PV
  k : Nat → TS

/-- Cells of a name's block that nobody writes any more. -/
def Tok.cold (tk : Tok) (off : Nat) : Prop :=
  match tk with
  | .box cells wr => wr = false ∧ off < cells.length
  | .row _ sz es wr => wr = false ∧ off < es.length * sz
  | .map _ => False
  | .arr .. => False

/-- Cells that stay as they are while the call runs. -/
def Cold (fr : Fr) (k : Nat → TS) (μ : Nat → Option Pl) (a : Addr) : Prop :=
  (a.block < fr.w0.heap.size → a.block ∈ fr.lent ∨ fr.S a) ∧ ∀ t tk b, k t = .live tk → μ t = some (.at b) → a.block = b → tk.cold a.off

/-- What a name in use holds in memory. -/
def TokRep (w : World) (C : Addr → Prop) (μ : Nat → Option Pl) (p : Pl) : Tok → Prop
  | .box xs _ => ∃ b cs e, p = .at b ∧ w.heap[b]? = some (.cells cs e (0, 0)) ∧ cs.size = xs.length ∧ ∀ (i : Nat) (x : PV), xs[i]? = some x → ∃ v, cs[i]? = some v ∧ RepV w C μ v x
  | .row e sz es _ => (0 < sz ∧ ∀ x ∈ es, x.length = sz) ∧ ((p = .nil ∧ es = []) ∨ ∃ b cs c, p = .at b ∧ w.heap[b]? = some (.cells cs e (0, 0)) ∧ cs.size = c * sz ∧ es.length ≤ c ∧ c ≤ maxLen ∧
      ∀ (i j : Nat) (x : List PV) (y : PV), es[i]? = some x → x[j]? = some y → ∃ v, cs[i * sz + j]? = some v ∧ RepV w C μ v y)
  | .map m => ∃ b es cl, p = .at b ∧ w.heap[b]? = some (.map es cl) ∧ es.size = m.length ∧ ∀ (i : Nat) (x : PV × PV), m[i]? = some x → ∃ en, es[i]? = some en ∧ RepV w C μ en.key x.1 ∧ RepV w C μ en.val x.2
  | .arr e sz es => (0 < sz ∧ ∀ x ∈ es, x.length = sz) ∧ ∃ b cs, p = .at b ∧ w.heap[b]? = some (.cells cs e (0, 0)) ∧ cs.size = es.length * sz ∧ es.length ≤ maxLen ∧
      ∀ (i j : Nat) (x : List PV) (y : PV), es[i]? = some x → x[j]? = some y → ∃ v, cs[i * sz + j]? = some v ∧ RepV w C μ v y

/-- The call's memory is as its names tell it, and what was there before is as it was. -/
structure Inv (fr : Fr) (k : Nat → TS) (μ : Nat → Option Pl) (w : World) : Prop where
  os : w.os = fr.w0.os
  tape : w.tape = fr.w0.tape
  output : w.output = fr.w0.output
  size : fr.w0.heap.size ≤ w.heap.size
  old : ∀ b, b < fr.w0.heap.size → b ∉ fr.lent → w.heap[b]? = fr.w0.heap[b]?
  used : ∀ t, μ t = none ↔ k t = .fresh
  live : ∀ t tk, k t = .live tk → ∃ p, μ t = some p ∧ TokRep w (Cold fr k μ) μ p tk
  place : ∀ t tk b, k t = .live tk → μ t = some (.at b) → b ∈ fr.lent ∨ fr.w0.heap.size ≤ b
  inj : ∀ t t' tk tk' b, k t = .live tk → k t' = .live tk' → μ t = some (.at b) → μ t' = some (.at b) → t = t'
  dead : ∀ t, k t = .dead → μ t = some .dead

/-- The slots and the names tell the frame and the world. -/
structure StRep (fr : Fr) (μ : Nat → Option Pl) (n : Nat) (σ : St) (a : Act) (w : World) : Prop where
  inv : Inv fr σ.k μ w
  size : a.tmps.size = n
  defers : a.defers = []
  slot : ∀ i, RepV w (Cold fr σ.k μ) μ (a.tmps.getD i undef) (σ.g i)

end Go.V
/- The value logic, part 2: what operations without memory do to values. Nothing is assumed. -/
set_option linter.unusedVariables false
set_option linter.unusedSimpArgs false
namespace Go.V
open Go.RowKit (Below)

/-! ### Inversion -/
section
variable {w : World} {C : Addr → Prop} {μ : Nat → Option Pl} {v : Value}
theorem RepV.int_inv {k : IntKind} {n : Int} (h : RepV w C μ v (.int k n)) : v = .int k n := by cases h with | base _ _ h => cases h; rfl
theorem RepV.bool_inv {b : Bool} (h : RepV w C μ v (.bool b)) : v = .bool b := by cases h with | base _ _ h => cases h; rfl
theorem RepV.str_inv {l : List UInt8} (h : RepV w C μ v (.str l)) : ∃ s, v = .string s ∧ s.data.toList = l := by cases h with | base _ _ h => cases h with | str s l h => exact ⟨s, rfl, h⟩
theorem RepV.nils_inv (h : RepV w C μ v .nils) : v = .slice none 0 0 := by cases h with | base _ _ h => cases h; rfl
theorem RepV.und_inv {x : PV} (h : RepV w C μ v (.und x)) : v = undef := by cases h with | base _ _ h => cases h | und x => rfl
theorem RepV.tup_inv {xs : List PV} (h : RepV w C μ v (.tup xs)) : ∃ cs, v = .tuple cs ∧ cs.size = xs.length ∧ ∀ (i : Nat) (v : Value) (x : PV), cs[i]? = some v → xs[i]? = some x → RepV w C μ v x := by
  cases h with
  | base _ _ h => cases h with | tup cs xs hl h => exact ⟨cs, rfl, hl, fun i v x a b => .base _ _ (h i v x a b)⟩
  | tup cs xs hl h => exact ⟨cs, rfl, hl, h⟩
theorem RepV.agg_inv {xs : List PV} (h : RepV w C μ v (.agg xs)) : ∃ cs, v = .agg cs ∧ cs.size = xs.length ∧ ∀ (i : Nat) (v : Value) (x : PV), cs[i]? = some v → xs[i]? = some x → RepV w C μ v x := by
  cases h with
  | base _ _ h => cases h with | agg cs xs hl h => exact ⟨cs, rfl, hl, fun i v x a b => .base _ _ (h i v x a b)⟩
  | agg cs xs hl h => exact ⟨cs, rfl, hl, h⟩
theorem RepV.fn_inv {f : FuncId} {xs : List PV} (h : RepV w C μ v (.fn f xs)) : ∃ cs, v = .func (.func f) #[] cs ∧ cs.size = xs.length ∧ ∀ (i : Nat) (v : Value) (x : PV), cs[i]? = some v → xs[i]? = some x → RepV w C μ v x := by
  cases h with
  | base _ _ h => cases h with | fn f cs xs hl h => exact ⟨cs, rfl, hl, fun i v x a b => .base _ _ (h i v x a b)⟩
  | fn f cs xs hl h => exact ⟨cs, rfl, hl, h⟩
theorem RepV.sl_inv {es : List (List PV)} (h : RepV w C μ v (.sl es)) : Rep0 w C v (.sl es) := by cases h with | base _ _ h => exact h
theorem RepV.pro_inv {xs : List PV} {off : Nat} (h : RepV w C μ v (.pro xs off)) : Rep0 w C v (.pro xs off) := by cases h with | base _ _ h => exact h
theorem RepV.any' (v : Value) : RepV w C μ v .any := .base _ _ (.any v)
end

/-! ### Operands -/
def PV.ofValue : Value → PV
  | .int k n => .int k n
  | .bool b => .bool b
  | .string s => .str s.data.toList
  | .pointer none => .nilp
  | .nilFunc => .nilfn
  | .nilIface => .nili
  | .slice none 0 0 => .nils
  | _ => .any
def PV.strip : PV → PV
  | .und x => x
  | x => x
def PV.ok : PV → Bool
  | .und _ => false
  | _ => true
def St.ev (σ : St) : Operand → PV
  | .tmp t => σ.g t
  | .const v => .ofValue v
  | .func f => .fn f []
  | .global _ => .any
theorem ofValue_rep {w : World} {C : Addr → Prop} (v : Value) : Rep0 w C v (.ofValue v) := by
  unfold PV.ofValue
  split <;> first | exact .any _ | exact .int _ _ | exact .bool _ | exact .str _ _ rfl | exact .nilp | exact .nilfn | exact .nili | exact .nils
theorem ev_rep {fr : Fr} {μ : Nat → Option Pl} {σ : St} {a : Act} {w : World} (h : ∀ i, RepV w (Cold fr σ.k μ) μ (a.tmps.getD i undef) (σ.g i)) (x : Operand) :
    RepV w (Cold fr σ.k μ) μ (a.eval x) (σ.ev x) := by
  cases x with
  | tmp t => exact h t
  | const v => exact .base _ _ (ofValue_rep v)
  | global g => exact .any' _
  | func f => exact .base _ _ (.fn f #[] [] rfl (by simp))
theorem strip_rep {w : World} {C : Addr → Prop} {μ : Nat → Option Pl} {v : Value} {x : PV} (h : RepV w C μ v x) (ho : x.ok = true) : RepV w C μ v x.strip := by
  cases x <;> first | exact h | simp [PV.ok] at ho

/-- A value that is there if the guard says so. -/
def PV.mk (g : Bool) (x : PV) : PV := if g then x else .und x
theorem mk_true (x : PV) : PV.mk true x = x := rfl
theorem strip_mk (g : Bool) (x : PV) (h : x.strip = x) : (PV.mk g x).strip = x := by cases g <;> simp [PV.mk, PV.strip] ; exact h
theorem ok_mk (g : Bool) (x : PV) : (PV.mk g x).ok = (g && x.ok) := by cases g <;> simp [PV.mk, PV.ok]

/-! ### Types -/
def tyAgg (P : Program) (t : TypeId) : Option (Bool × Nat) :=
  match P.underlying t, P.info? t with
  | some d, some i => some (match d with | .struct _ | .array _ _ => true | _ => false, i.size)
  | _, _ => none
def tyField (P : Program) (s : TypeId) (f : Nat) : Option Nat :=
  match P.underlying s with
  | some (.struct fs) => match fs[f]? with
    | some fl => match P.info? fl.type with
      | some i => if i.size = 0 then none else some fl.offset
      | none => none
    | none => none
  | _ => none
def tyElem (P : Program) (t : TypeId) : Option (TypeId × Nat) :=
  match P.underlying t with
  | some (.slice e) => match P.info? e with
    | some i => some (e, i.size)
    | none => none
  | _ => none
def tyInt (P : Program) (t : TypeId) : Option IntKind :=
  match P.underlying t with
  | some (.int k) => some k
  | _ => none
def tyIs (P : Program) (t : TypeId) (d : TypeDesc) : Bool := match P.underlying t, d with
  | some .bool, .bool => true
  | some .string, .string => true
  | some (.slice _), .slice _ => true
  | some (.int _), .int _ => true
  | _, _ => false

theorem tyAgg_run {P : Program} {t : TypeId} {b : Bool} {s : Nat} (h : tyAgg P t = some (b, s)) (w : World) : (isAgg t).run P w = .ok b w ∧ (sizeOf t).run P w = .ok s w := by
  unfold tyAgg at h
  split at h
  · rename_i d i hd hi
    cases h
    refine ⟨?_, ?_⟩
    · simp only [isAgg, Sem.run_bind, run_underlying hd, Result.andThen]
      cases d <;> rfl
    · simp only [sizeOf, typeInfo, Sem.run_bind]
      simp [hi]
  · cases h

/-! ### What an address leads to -/
def view (k : Nat → TS) : PV → Option (List PV × Nat)
  | .pro xs off => some (xs, off)
  | .ptr t off => match k t with
    | .live (.box xs _) => some (xs, off)
    | _ => none
  | .ep t sz i off => match k t with
    | .live (.row _ sz' es _) => if sz = sz' then match es[i]? with
      | some x => some (x, off)
      | none => none
      else none
    | _ => none
  | _ => none

/-! ### Equality of structs -/
def prt (P : Program) (t : TypeId) (xs : List PV) (off : Nat) : Option PV := match tyAgg P t with
  | some (true, n) => if off + n ≤ xs.length then some (.agg ((xs.drop off).take n)) else none
  | some (false, _) => xs[off]?
  | none => none
def eqf (P : Program) (r : TypeId → PV → PV → Option Bool) (xs ys : List PV) : List Field → Option Bool
  | [] => some true
  | f :: fs => if f.name ≠ "_" then
      match prt P f.type xs f.offset, prt P f.type ys f.offset with
      | some a, some b => match r f.type a b, eqf P r xs ys fs with
        | some u, some v => some (u && v)
        | _, _ => none
      | _, _ => none
    else eqf P r xs ys fs
def eqs (P : Program) : Nat → TypeId → PV → PV → Option Bool
  | 0, _, _, _ => none
  | d + 1, t, .agg xs, .agg ys => match P.underlying t with
    | some (.struct fs) => if P.stoodInHeld t = false then eqf P (eqs P d) xs ys fs.toList else none
    | _ => none
  | _ + 1, t, .int k a, .int k' b => match P.underlying t with
    | some (.int _) => if k = k' then some (a == b) else none
    | _ => none
  | _ + 1, t, .bool a, .bool b => if tyIs P t .bool then some (a == b) else none
  | _ + 1, t, .str a, .str b => if tyIs P t .string then some (a == b) else none
  | _, _, _, _ => none
theorem run_prt {P : Program} {w : World} {C : Addr → Prop} {μ : Nat → Option Pl} {t : TypeId} {cs : Array Value} {xs : List PV} {off : Nat} {y : PV} (hl : cs.size = xs.length) (hr : ∀ (i : Nat) (v : Value) (x : PV), cs[i]? = some v → xs[i]? = some x → RepV w C μ v x)
    (h : prt P t xs off = some y) : ∃ v, (part t cs off).run P w = .ok v w ∧ RepV w C μ v y := by
  unfold prt at h
  split at h
  · rename_i n ht
    split at h
    · rename_i hle
      cases h
      obtain ⟨h1, h2⟩ := tyAgg_run ht w
      refine ⟨.agg (cs.extract off (off + n)), ?_, .agg _ _ ?_ (fun i v x hv hx => ?_)⟩
      · simp only [part, Sem.run_bind, h1, Result.andThen, if_true, h2]; rfl
      · simp; omega
      · rw [Array.getElem?_extract] at hv
        rw [List.getElem?_take] at hx
        split at hv
        · split at hx
          · rw [List.getElem?_drop] at hx
            exact hr _ v x hv hx
          · cases hx
        · cases hv
    · cases h
  · rename_i n ht
    obtain ⟨h1, h2⟩ := tyAgg_run ht w
    obtain ⟨hlt, _⟩ := List.getElem?_eq_some_iff.1 h
    have hc : cs[off]? = some (cs[off]'(by omega)) := Array.getElem?_eq_getElem _
    exact ⟨_, by simp only [part, Sem.run_bind, h1, Result.andThen, hc]; rfl, hr off _ y hc h⟩
  · cases h
theorem run_eqs {P : Program} {w : World} {C : Addr → Prop} {μ : Nat → Option Pl} : ∀ (d D : Nat) {t : TypeId} {va vb : Value} {x y : PV} {b : Bool}, d ≤ D → RepV w C μ va x → RepV w C μ vb y → eqs P d t x y = some b → (Op.equalIn D t va vb).run P w = .ok b w := by
  intro d
  induction d with
  | zero => intro D t va vb x y b _ _ _ h; simp [eqs] at h
  | succ d ih =>
    intro D t va vb x y b hD hx hy h
    obtain ⟨D, rfl⟩ : ∃ E, D = E + 1 := ⟨D - 1, by omega⟩
    have hdD : d ≤ D := by omega
    cases x <;> cases y <;> try (simp only [eqs] at h; cases h; done)
    case int.int k a k' c =>
      obtain rfl := hx.int_inv
      obtain rfl := hy.int_inv
      simp only [eqs] at h
      split at h
      · rename_i k0 hu
        split at h
        · rename_i hk; subst hk; cases h; exact run_equalIn_int w D t k k0 a c hu
        · cases h
      · cases h
    case bool.bool a c =>
      obtain rfl := hx.bool_inv
      obtain rfl := hy.bool_inv
      simp only [eqs] at h
      split at h
      · rename_i ht
        cases h
        have hu : P.underlying t = some .bool := by
          unfold tyIs at ht; split at ht <;> first | assumption | (rename_i hh; cases hh) | cases ht
        exact run_equalIn_bool' w D t a c hu
      · cases h
    case str.str a c =>
      obtain ⟨sa, rfl, rfl⟩ := hx.str_inv
      obtain ⟨sb, rfl, rfl⟩ := hy.str_inv
      simp only [eqs] at h
      split at h
      · rename_i ht
        cases h
        have hu : P.underlying t = some .string := by
          unfold tyIs at ht; split at ht <;> first | assumption | (rename_i hh; cases hh) | cases ht
        rw [run_equalIn_string w D t sa sb hu]
        simp only [ByteArray.toList_eq]
      · cases h
    case agg.agg xs ys =>
      obtain ⟨cs, rfl, hl, hr⟩ := hx.agg_inv
      obtain ⟨es, rfl, hl', hr'⟩ := hy.agg_inv
      simp only [eqs] at h
      split at h
      · rename_i fs hu
        split at h
        · rename_i hs
          have hf : P.fieldsOf t = fs := by unfold Program.fieldsOf; rw [hu]
          rw [run_equalIn_agg w D t cs es (by rw [hf]; exact hu) hs, hf]
          revert h
          generalize fs.toList = l
          induction l generalizing b with
          | nil => intro h; simp only [eqf] at h; cases h; rfl
          | cons f l ihl =>
            intro h
            simp only [eqf] at h
            simp only [Op.eqFields]
            split at h
            · rename_i hn
              rw [if_pos hn]
              split at h
              · rename_i p q hp hq
                split at h
                · rename_i u v hu' hv
                  cases h
                  obtain ⟨vp, hvp, hrp⟩ := run_prt hl hr hp
                  obtain ⟨vq, hvq, hrq⟩ := run_prt hl' hr' hq
                  have he := ih D hdD hrp hrq hu'
                  simp only [Sem.run_bind, hvp, hvq, Result.andThen, he]
                  cases u with
                  | true => simpa using ihl hv
                  | false => rfl
                · cases h
              · cases h
            · rename_i hn
              rw [if_neg hn]
              exact ihl h
        · cases h
      · cases h

/-! ### Arithmetic -/
/-- Is it the nil slice? -/
def isNilP : PV → Option Bool
  | .nils => some true
  | .emp b => some b
  | .sl (_ :: _) => some false
  | _ => none
theorem isNilP_rep {w : World} {C : Addr → Prop} {μ : Nat → Option Pl} {v : Value} {x : PV} {b : Bool} (h : RepV w C μ v x) (hb : isNilP x = some b) : ∃ A n c, v = .slice A n c ∧ A.isNone = b := by
  unfold isNilP at hb
  split at hb
  · cases hb; exact ⟨none, 0, 0, h.nils_inv, rfl⟩
  · cases hb
    cases h with | base _ _ h => cases h with | emp A c => exact ⟨A, 0, c, rfl, rfl⟩
  · cases hb
    have h0 := h.sl_inv
    cases h0 with | sl b o c n sz es u hn hpos hc hsz hcell hC h => exact ⟨_, _, _, rfl, rfl⟩
  · cases hb
theorem tyElem_und {P : Program} {t : TypeId} {e : TypeId × Nat} (h : tyElem P t = some e) : P.underlying t = some (.slice e.1) := by
  unfold tyElem at h
  split at h
  · rename_i e' hu
    cases hi : P.info? e' with
    | none => simp [hi] at h
    | some i => simp [hi] at h; cases h; exact hu
  · cases h
def bin (P : Program) (op : BinOp) (t : TypeId) : PV → PV → Option PV
  | .int k a, .int k' b =>
    match op with
    | .shl => if b < 0 then none else some (.int k (k.wrap (a * 2 ^ (min b.toNat k.bits))))
    | .shr => if b < 0 then none else some (.int k (a.fdiv (2 ^ (min b.toNat k.bits))))
    | _ => if k = k' then
      match op with
      | .add => some (.int k (k.wrap (a + b)))
      | .sub => some (.int k (k.wrap (a - b)))
      | .mul => some (.int k (k.wrap (a * b)))
      | .quo => if b = 0 then none else some (.int k (k.wrap (a.tdiv b)))
      | .rem => if b = 0 then none else some (.int k (a.tmod b))
      | .and => some (.int k (k.wrap (BitVec.ofInt k.bits a &&& BitVec.ofInt k.bits b).toNat))
      | .or => some (.int k (k.wrap (BitVec.ofInt k.bits a ||| BitVec.ofInt k.bits b).toNat))
      | .xor => some (.int k (k.wrap (BitVec.ofInt k.bits a ^^^ BitVec.ofInt k.bits b).toNat))
      | .andNot => some (.int k (k.wrap (BitVec.ofInt k.bits a &&& ~~~ BitVec.ofInt k.bits b).toNat))
      | .eql => some (.bool (a == b))
      | .neq => some (.bool (a != b))
      | .lss => some (.bool (decide (a < b)))
      | .leq => some (.bool (decide (a ≤ b)))
      | .gtr => some (.bool (decide (b < a)))
      | .geq => some (.bool (decide (b ≤ a)))
      | _ => none
      else none
  | .bool a, .bool b =>
    if tyIs P t .bool then
      match op with
      | .eql => some (.bool (a == b))
      | .neq => some (.bool (a != b))
      | _ => none
    else none
  | .str a, .str b =>
    match op with
    | .eql => some (.bool (a == b))
    | .neq => some (.bool (a != b))
    | .lss => some (.bool (Op.bytesLess a b))
    | .leq => some (.bool (Op.bytesLess a b || a == b))
    | .gtr => some (.bool (!(Op.bytesLess a b || a == b)))
    | .geq => some (.bool (!Op.bytesLess a b))
    | .add => if a.length + b.length ≤ 9223372036854775807 then some (.str (a ++ b)) else none
    | _ => none
  | .agg xs, .agg ys => if P.eqGuardType P.depth t = false then
      match op with
      | .eql => (eqs P 9 t (.agg xs) (.agg ys)).map .bool
      | .neq => (eqs P 9 t (.agg xs) (.agg ys)).map fun b => .bool (!b)
      | _ => none
    else none
  | x, .nils => match op, isNilP x, tyElem P t with
    | .eql, some b, some _ => some (.bool b)
    | .neq, some b, some _ => some (.bool (!b))
    | _, _, _ => none
  | _, _ => none


theorem run_eq_bool {P : Program} {t : TypeId} (h : tyIs P t .bool = true) (a b : Bool) (w : World) : (Op.equal t (.bool a) (.bool b)).run P w = .ok (a == b) w := by
  have hu : P.underlying t = some .bool := by
    unfold tyIs at h
    cases hx : P.underlying t with
    | none => simp [hx] at h
    | some d => cases d <;> simp [hx] at h ⊢
  have he : Op.equal t (.bool a) (.bool b) = Op.equalIn (9999 + 1) t (.bool a) (.bool b) := rfl
  rw [he]
  generalize 9999 = d
  simp only [Op.equalIn, Sem.run_bind, run_underlying hu, Result.andThen]
  rfl

theorem run_bin {P : Program} {op : BinOp} {t : TypeId} {xo yo : Operand} {w : World} {C : Addr → Prop} {μ : Nat → Option Pl} {va vb : Value} {x y z : PV}
    (hx : RepV w C μ va x) (hy : RepV w C μ vb y) (h : bin P op t x y = some z) :
    ∃ v, (do eqGuard op t xo yo va vb; binOp op t va vb : Sem Value).run P w = .ok v w ∧ Rep0 w C v z := by
  unfold bin at h
  split at h
  · rename_i k a k' b
    obtain rfl := hx.int_inv
    obtain rfl := hy.int_inv
    simp only [eqGuard_at_int]
    change ∃ v, (binOp op t (.int k a) (.int k' b)).run P w = .ok v w ∧ _
    cases op with
    | shl =>
      simp only at h
      split at h
      · cases h
      · rename_i hb
        cases h
        exact ⟨_, by simp only [binOp_shl, Op.shift, if_neg hb]; rfl, .int _ _⟩
    | shr =>
      simp only at h
      split at h
      · cases h
      · rename_i hb
        cases h
        exact ⟨_, by simp only [binOp_shr, Op.shift, if_neg hb]; rfl, .int _ _⟩
    | add => simp only at h; split at h; (rename_i hk; subst hk; cases h; exact ⟨_, by rw [binOp_add]; rfl, .int _ _⟩); cases h
    | sub => simp only at h; split at h; (rename_i hk; subst hk; cases h; exact ⟨_, by rw [binOp_sub]; rfl, .int _ _⟩); cases h
    | mul => simp only at h; split at h; (rename_i hk; subst hk; cases h; exact ⟨_, by rw [binOp_mul]; rfl, .int _ _⟩); cases h
    | and => simp only at h; split at h; (rename_i hk; subst hk; cases h; exact ⟨_, by rw [binOp_and]; rfl, .int _ _⟩); cases h
    | or => simp only at h; split at h; (rename_i hk; subst hk; cases h; exact ⟨_, by rw [binOp_or]; rfl, .int _ _⟩); cases h
    | xor => simp only at h; split at h; (rename_i hk; subst hk; cases h; exact ⟨_, by rw [binOp_xor]; rfl, .int _ _⟩); cases h
    | andNot => simp only at h; split at h; (rename_i hk; subst hk; cases h; exact ⟨_, by rw [binOp_andNot]; rfl, .int _ _⟩); cases h
    | eql => simp only at h; split at h; (rename_i hk; subst hk; cases h; exact ⟨_, by rw [binOp_eql]; rfl, .bool _⟩); cases h
    | neq => simp only at h; split at h; (rename_i hk; subst hk; cases h; exact ⟨_, by rw [binOp_neq]; rfl, .bool _⟩); cases h
    | lss => simp only at h; split at h; (rename_i hk; subst hk; cases h; exact ⟨_, by rw [binOp_lss]; rfl, .bool _⟩); cases h
    | leq => simp only at h; split at h; (rename_i hk; subst hk; cases h; exact ⟨_, by rw [binOp_leq]; rfl, .bool _⟩); cases h
    | gtr => simp only at h; split at h; (rename_i hk; subst hk; cases h; exact ⟨_, by rw [binOp_gtr]; rfl, .bool _⟩); cases h
    | geq => simp only at h; split at h; (rename_i hk; subst hk; cases h; exact ⟨_, by rw [binOp_geq]; rfl, .bool _⟩); cases h
    | quo =>
      simp only at h
      split at h
      · rename_i hk; subst hk
        split at h
        · cases h
        · rename_i hb; cases h
          exact ⟨_, by rw [binOp_quo]; simp only [Op.intDiv, if_neg hb]; rfl, .int _ _⟩
      · cases h
    | rem =>
      simp only at h
      split at h
      · rename_i hk; subst hk
        split at h
        · cases h
        · rename_i hb; cases h
          exact ⟨_, by rw [binOp_rem]; simp only [Op.intDiv, if_neg hb]; rfl, .int _ _⟩
      · cases h
  · rename_i a b
    obtain rfl := hx.bool_inv
    obtain rfl := hy.bool_inv
    split at h
    · rename_i ht
      cases op <;> simp only at h <;> cases h
      · refine ⟨.bool (a == b), ?_, .bool _⟩
        show (do pure (.bool (← Op.equal t (.bool a) (.bool b))) : Sem Value).run P w = _
        rw [Sem.run_bind, run_eq_bool ht]; rfl
      · refine ⟨.bool (a != b), ?_, .bool _⟩
        show (do pure (.bool (!(← Op.equal t (.bool a) (.bool b)))) : Sem Value).run P w = _
        rw [Sem.run_bind, run_eq_bool ht]; rfl
    · cases h
  · rename_i a b
    obtain ⟨sa, rfl, rfl⟩ := hx.str_inv
    obtain ⟨sb, rfl, rfl⟩ := hy.str_inv
    have hs : ∀ (m : Sem Value), (do eqGuard op t xo yo (.string sa) (.string sb); m : Sem Value) = m := fun m => by rw [eqGuard_at_string]; rfl
    rw [hs]
    have hb : binOp op t (.string sa) (.string sb) = Op.stringOp op sa sb := by cases op <;> rfl
    rw [hb]
    unfold Op.stringOp
    simp only [ByteArray.toList_eq]
    cases op <;> simp only at h ⊢ <;> first
      | (cases h; exact ⟨_, rfl, .bool _⟩)
      | (split at h
         · rename_i hl
           cases h
           refine ⟨.string (sa ++ sb), ?_, .str _ _ (by simp)⟩
           have h1 : sa.data.toList.length = sa.size := by simp
           have h2 : sb.data.toList.length = sb.size := by simp
           rw [IntKind.max_i64, if_neg (by omega)]; rfl
         · cases h)
      | cases h
  · rename_i xs ys
    obtain ⟨cs, rfl, hl, hr⟩ := hx.agg_inv
    obtain ⟨es, rfl, hl', hr'⟩ := hy.agg_inv
    split at h
    · rename_i hg
      have hgd := run_eqGuard_agg w op t xo yo cs es hg
      rw [Sem.run_bind, hgd]
      simp only [Result.andThen]
      cases op <;> simp only at h <;> try (cases h; done)
      · cases he : eqs P 9 t (.agg xs) (.agg ys) with
        | none => rw [he] at h; cases h
        | some b =>
          rw [he] at h; cases h
          exact ⟨.bool b, by rw [run_eql_struct, run_eqs 9 10000 (by omega) hx hy he]; rfl, .bool _⟩
      · cases he : eqs P 9 t (.agg xs) (.agg ys) with
        | none => rw [he] at h; cases h
        | some b =>
          rw [he] at h; cases h
          exact ⟨.bool (!b), by rw [run_neq_struct, run_eqs 9 10000 (by omega) hx hy he]; rfl, .bool _⟩
    · cases h
  · obtain rfl := hy.nils_inv
    split at h
    · rename_i b e hb ht
      cases h
      obtain ⟨A, n, c, rfl, rfl⟩ := isNilP_rep hx hb
      have hu := tyElem_und ht
      refine ⟨.bool A.isNone, ?_, .bool _⟩
      show (do pure (.bool (← Op.equal t (.slice A n c) (.slice none 0 0))) : Sem Value).run P w = _
      rw [Sem.run_bind, run_equal_slice_nil w t _ A n c hu]; rfl
    · rename_i b e hb ht
      cases h
      obtain ⟨A, n, c, rfl, rfl⟩ := isNilP_rep hx hb
      have hu := tyElem_und ht
      refine ⟨.bool (!A.isNone), ?_, .bool _⟩
      show (do pure (.bool (!(← Op.equal t (.slice A n c) (.slice none 0 0)))) : Sem Value).run P w = _
      rw [Sem.run_bind, run_equal_slice_nil w t _ A n c hu]; rfl
    · cases h
  · cases h

/-! ### Other operations without memory -/
def un (op : UnOp) : PV → Option PV
  | .int k a => match op with
    | .neg => some (.int k (k.wrap (0 - a)))
    | .xor => some (.int k (k.wrap (BitVec.ofInt k.bits (if k.signed then -1 else k.max) ^^^ BitVec.ofInt k.bits a).toNat))
    | _ => none
  | .bool b => match op with
    | .not => some (.bool !b)
    | _ => none
  | _ => none
theorem run_un {P : Program} {op : UnOp} {w : World} {C : Addr → Prop} {μ : Nat → Option Pl} {va : Value} {x z : PV} (hx : RepV w C μ va x) (h : un op x = some z) :
    ∃ v, (Op.unary op va).run P w = .ok v w ∧ Rep0 w C v z := by
  unfold un at h
  split at h
  · obtain rfl := hx.int_inv
    cases op <;> simp only at h <;> cases h
    · exact ⟨_, by simp [Op.unary, Op.intArith], .int _ _⟩
    · exact ⟨_, by simp [Op.unary, Op.intBits], .int _ _⟩
  · obtain rfl := hx.bool_inv
    cases op <;> simp only at h <;> cases h
    exact ⟨_, by simp [Op.unary], .bool _⟩
  · cases h

/-- Conversions between integer kinds, and of a string to a string. -/
def conv (P : Program) (src dst : TypeId) : PV → Option PV
  | .int _ n => match tyInt P dst with
    | some k => if (P.underlying src).isSome then some (.int k (k.wrap n)) else none
    | none => none
  | .str s => if tyIs P src .string && tyIs P dst .string then some (.str s) else none
  | _ => none
theorem run_conv {P : Program} {src dst : TypeId} {w : World} {C : Addr → Prop} {μ : Nat → Option Pl} {va : Value} {x z : PV} (hx : RepV w C μ va x) (h : conv P src dst x = some z) :
    ∃ v, (convert src dst va).run P w = .ok v w ∧ Rep0 w C v z := by
  unfold conv at h
  split at h
  · obtain rfl := hx.int_inv
    split at h
    · rename_i k hk
      split at h
      · rename_i hs
        cases h
        obtain ⟨d, hd⟩ := Option.isSome_iff_exists.mp hs
        have hu : P.underlying dst = some (.int k) := by
          unfold tyInt at hk
          split at hk
          · rename_i k' hk'; cases hk; exact hk'
          · cases hk
        exact ⟨_, by simp [convert, run_underlying hd, run_underlying hu, Conv.intToInt], .int _ _⟩
      · cases h
    · cases h
  · obtain ⟨s, rfl, rfl⟩ := hx.str_inv
    split at h
    · rename_i hs
      cases h
      simp only [Bool.and_eq_true] at hs
      have h1 : ∀ t, tyIs P t .string = true → P.underlying t = some .string := by
        intro t ht
        unfold tyIs at ht
        cases hx : P.underlying t with
        | none => simp [hx] at ht
        | some d => cases d <;> simp [hx] at ht ⊢
      exact ⟨.string s, by simp [convert, run_underlying (h1 _ hs.1), run_underlying (h1 _ hs.2)], .str _ _ rfl⟩
    · cases h
  · cases h

/-- A part of a tuple. -/
def ext : PV → Nat → Option PV
  | .tup xs, i => xs[i]?
  | _, _ => none
theorem run_ext {P : Program} {i : Nat} {w : World} {C : Addr → Prop} {μ : Nat → Option Pl} {va : Value} {x z : PV} (hx : RepV w C μ va x) (h : ext x i = some z) :
    ∃ v, (Instr.extract va i).run P w = .ok v w ∧ RepV w C μ v z := by
  unfold ext at h
  split at h
  · rename_i xs
    obtain ⟨cs, rfl, hl, hr⟩ := hx.tup_inv
    obtain ⟨hi, _⟩ := List.getElem?_eq_some_iff.1 h
    have hc : cs[i]? = some cs[i] := Array.getElem?_eq_getElem (by omega)
    exact ⟨cs[i], by simp [Instr.extract, hc], hr i _ _ hc h⟩
  · cases h

/-- A byte of a string. -/
def idx (P : Program) (t : TypeId) : PV → PV → Option PV
  | .str s, .int _ i => if tyIs P t .string && decide (0 ≤ i) then match s[i.toNat]? with
      | some c => some (.int .u8 c.toNat)
      | none => none
    else none
  | _, _ => none
theorem tyIs_string {P : Program} {t : TypeId} (ht : tyIs P t .string = true) : P.underlying t = some .string := by
  unfold tyIs at ht
  cases hx : P.underlying t with
  | none => simp [hx] at ht
  | some d => cases d <;> simp [hx] at ht ⊢
theorem run_idx {P : Program} {t : TypeId} {w : World} {C : Addr → Prop} {μ : Nat → Option Pl} {va vb : Value} {x y z : PV} (hx : RepV w C μ va x) (hy : RepV w C μ vb y) (h : idx P t x y = some z) :
    ∃ v, (Instr.index t va vb).run P w = .ok v w ∧ Rep0 w C v z := by
  unfold idx at h
  split at h
  · rename_i s k i
    obtain ⟨b, rfl, rfl⟩ := hx.str_inv
    obtain rfl := hy.int_inv
    split at h
    · rename_i hs
      simp only [Bool.and_eq_true, decide_eq_true_eq] at hs
      split at h
      · rename_i c hc
        cases h
        have hb : b[i.toNat]? = some c := by
          rw [Array.getElem?_toList] at hc
          obtain ⟨hi, he⟩ := Array.getElem?_eq_some_iff.1 hc
          show (if h : i.toNat < b.size then some b[i.toNat] else none) = some c
          rw [dif_pos (by simpa using hi)]
          exact congrArg some he
        refine ⟨.int .u8 c.toNat, ?_, .int _ _⟩
        simp [Instr.index, run_underlying (tyIs_string hs.1), asIntOf, hs.2, hb]
      · cases h
    · cases h
  · cases h

/-- The part of a string. -/
def cut (P : Program) (t : TypeId) (s : PV) (lo hi : Option PV) : Option PV :=
  match s, lo, hi with
  | .str s, none, none => if tyIs P t .string then some (.str s) else none
  | .str s, some (.int _ i), none => if tyIs P t .string ∧ 0 ≤ i ∧ i ≤ s.length then some (.str (s.drop i.toNat)) else none
  | .str s, none, some (.int _ j) => if tyIs P t .string ∧ 0 ≤ j ∧ j ≤ s.length then some (.str (s.take j.toNat)) else none
  | .str s, some (.int _ i), some (.int _ j) => if tyIs P t .string ∧ 0 ≤ j ∧ j ≤ s.length ∧ 0 ≤ i ∧ i ≤ j then some (.str ((s.take j.toNat).drop i.toNat)) else none
  | _, _, _ => none
theorem extract_list (s : ByteArray) (a b : Nat) : (s.extract a b).data.toList = (s.data.toList.take b).drop a := by
  rw [ByteArray.data_extract]
  simp [List.drop_take]
theorem run_cut {P : Program} {t : TypeId} {w : World} {C : Addr → Prop} {μ : Nat → Option Pl} {va : Value} {vl vh : Option Value} {x z : PV} {l h : Option PV} (hx : RepV w C μ va x)
    (hl : match l, vl with | some p, some v => RepV w C μ v p | none, none => True | _, _ => False)
    (hh : match h, vh with | some p, some v => RepV w C μ v p | none, none => True | _, _ => False) (hc : cut P t x l h = some z) :
    ∃ v, (Instr.sliceAt t va vl vh none).run P w = .ok v w ∧ Rep0 w C v z := by
  have key : ∀ (b : ByteArray) (lo hi : Nat), lo ≤ hi → hi ≤ b.size → tyIs P t .string = true →
      (Instr.sliceBounds false b.size b.size vl vh none).run P w = .ok (lo, hi, b.size) w →
      (Instr.sliceAt t (.string b) vl vh none).run P w = .ok (.string (b.extract lo hi)) w := by
    intro b lo hi _ _ ht hb
    have hu := tyIs_string ht
    simp only [Instr.sliceAt, Sem.run_bind, run_underlying hu, Result.andThen, Instr.slice, Option.isSome_none, Bool.false_eq_true, if_false, hb]
    rfl
  unfold cut at hc
  split at hc
  · rename_i s
    obtain ⟨b, rfl, rfl⟩ := hx.str_inv
    cases vl with | some _ => exact hl.elim | none => ?_
    cases vh with | some _ => exact hh.elim | none => ?_
    split at hc
    · rename_i ht
      cases hc
      refine ⟨_, key b 0 b.size (by omega) (Nat.le_refl _) ht rfl, .str _ _ ?_⟩
      rw [extract_list, List.take_of_length_le (by simp)]; rfl
    · cases hc
  · rename_i s k i
    obtain ⟨b, rfl, rfl⟩ := hx.str_inv
    cases vl with | none => exact hl.elim | some v => ?_
    cases vh with | some _ => exact hh.elim | none => ?_
    obtain rfl := RepV.int_inv hl
    split at hc
    · rename_i ht
      cases hc
      obtain ⟨ht, h0, h1⟩ := ht
      have h1' : i ≤ (b.size : Int) := by simpa using h1
      refine ⟨_, key b i.toNat b.size (by omega) (Nat.le_refl _) ht ?_, .str _ _ ?_⟩
      · simp only [Instr.sliceBounds, Instr.sliceBound, asIntOf, Sem.run_bind, Sem.run_pure, Result.andThen]
        rw [if_pos ⟨h0, h1'⟩]; rfl
      · rw [extract_list, List.take_of_length_le (by simp)]
    · cases hc
  · rename_i s k j
    obtain ⟨b, rfl, rfl⟩ := hx.str_inv
    cases vl with | some _ => exact hl.elim | none => ?_
    cases vh with | none => exact hh.elim | some v => ?_
    obtain rfl := RepV.int_inv hh
    split at hc
    · rename_i ht
      cases hc
      obtain ⟨ht, h0, h1⟩ := ht
      have h1' : j ≤ (b.size : Int) := by simpa using h1
      refine ⟨_, key b 0 j.toNat (by omega) (by omega) ht ?_, .str _ _ ?_⟩
      · simp only [Instr.sliceBounds, Instr.sliceBound, asIntOf, Sem.run_bind, Sem.run_pure, Result.andThen]
        rw [if_pos ⟨h0, h1'⟩]; rfl
      · rw [extract_list]; rfl
    · cases hc
  · rename_i s k i k' j
    obtain ⟨b, rfl, rfl⟩ := hx.str_inv
    cases vl with | none => exact hl.elim | some v => ?_
    cases vh with | none => exact hh.elim | some v' => ?_
    obtain rfl := RepV.int_inv hl
    obtain rfl := RepV.int_inv hh
    split at hc
    · rename_i ht
      cases hc
      obtain ⟨ht, h0, h1, h2, h3⟩ := ht
      have h1' : j ≤ (b.size : Int) := by simpa using h1
      refine ⟨_, key b i.toNat j.toNat (by omega) (by omega) ht ?_, .str _ _ ?_⟩
      · simp only [Instr.sliceBounds, Instr.sliceBound, asIntOf, Sem.run_bind, Sem.run_pure, Result.andThen]
        rw [if_pos ⟨h0, h1'⟩]
        simp only [Sem.run_bind, Sem.run_pure, Result.andThen]
        rw [if_pos ⟨h2, by omega⟩]; rfl
      · rw [extract_list]
    · cases hc
  · cases hc

end Go.V
/- The value logic, part 3: memory: steps of the world that keep what is told of it. Nothing is assumed. -/
set_option linter.unusedVariables false
set_option linter.unusedSimpArgs false
namespace Go.V
open Go.RowKit (Below)

def upd {α : Type} (k : Nat → α) (t : Nat) (x : α) : Nat → α := fun i => if i = t then x else k i
theorem upd_same {α : Type} (k : Nat → α) (t : Nat) (x : α) : upd k t x t = x := by simp [upd]
theorem upd_ne {α : Type} (k : Nat → α) (t i : Nat) (x : α) (h : i ≠ t) : upd k t x i = k i := by simp [upd, h]
def St.put (σ : St) (d : Option Tmp) (x : PV) : St := match d with | some d => ⟨upd σ.g d x, σ.k⟩ | none => σ

section
variable {fr : Fr} {μ μ' : Nat → Option Pl} {k k' : Nat → TS} {w w' : World}

theorem Inv.at_live (h : Inv fr k μ w) {t b : Nat} (ht : μ t = some (.at b)) : ∃ tk, k t = .live tk ∧ TokRep w (Cold fr k μ) μ (.at b) tk := by
  cases hk : k t with
  | fresh => have := (h.used t).2 hk; simp [ht] at this
  | dead => have := h.dead t hk; simp [ht] at this
  | live tk =>
    obtain ⟨p, hp, hr⟩ := h.live t tk hk
    rw [ht] at hp; cases hp
    exact ⟨tk, rfl, hr⟩
theorem TokRep.lt {C : Addr → Prop} {b : Nat} {tk : Tok} (h : TokRep w C μ (.at b) tk) : b < w.heap.size := by
  cases tk with
  | box xs wr => obtain ⟨b', cs, e, hb, hh, _⟩ := h; cases hb; exact (Array.getElem?_eq_some_iff.1 hh).1
  | row e sz es wr =>
    rcases h.2 with ⟨h, _⟩ | ⟨b', cs, c, hb, hh, _⟩
    · cases h
    · cases hb; exact (Array.getElem?_eq_some_iff.1 hh).1
  | map m => obtain ⟨b', es, cl, hb, hh, _⟩ := h; cases hb; exact (Array.getElem?_eq_some_iff.1 hh).1
  | arr e sz es => obtain ⟨_, b', cs, hb, hh, _⟩ := h; cases hb; exact (Array.getElem?_eq_some_iff.1 hh).1
theorem Inv.at_lt (h : Inv fr k μ w) {t b : Nat} (ht : μ t = some (.at b)) : b < w.heap.size := let ⟨_, _, hr⟩ := h.at_live ht; hr.lt

theorem TokRep.mono {C C' : Addr → Prop} (K : Keeps w w' C C' μ μ') {p : Pl} {tk : Tok} (hb : ∀ b, p = .at b → w'.heap[b]? = w.heap[b]?) (h : TokRep w C μ p tk) : TokRep w' C' μ' p tk := by
  cases tk with
  | box xs wr =>
    obtain ⟨b, cs, e, hp, hh, hs, hc⟩ := h
    exact ⟨b, cs, e, hp, by rw [hb b hp]; exact hh, hs, fun i x hx => let ⟨v, hv, hr⟩ := hc i x hx; ⟨v, hv, hr.mono K⟩⟩
  | row e sz es wr =>
    refine ⟨h.1, ?_⟩
    rcases h.2 with h | ⟨b, cs, c, hp, hh, hs, hle, hm, hc⟩
    · exact .inl h
    · exact .inr ⟨b, cs, c, hp, by rw [hb b hp]; exact hh, hs, hle, hm, fun i j x y hx hy => let ⟨v, hv, hr⟩ := hc i j x y hx hy; ⟨v, hv, hr.mono K⟩⟩
  | map m =>
    obtain ⟨b, es, cl, hp, hh, hs, hc⟩ := h
    exact ⟨b, es, cl, hp, by rw [hb b hp]; exact hh, hs, fun i x hx => let ⟨en, he, h1, h2⟩ := hc i x hx; ⟨en, he, h1.mono K, h2.mono K⟩⟩
  | arr e sz es =>
    obtain ⟨h0, b, cs, hp, hh, hs, hm, hc⟩ := h
    exact ⟨h0, b, cs, hp, by rw [hb b hp]; exact hh, hs, hm, fun i j x y hx hy => let ⟨v, hv, hr⟩ := hc i j x y hx hy; ⟨v, hv, hr.mono K⟩⟩

/-- The step of a state. -/
theorem StRep.step {n : Nat} {σ : St} {a : Act} (h : StRep fr μ n σ a w) (hi : Inv fr k' μ' w') (K : Keeps w w' (Cold fr σ.k μ) (Cold fr k' μ') μ μ') : StRep fr μ' n ⟨σ.g, k'⟩ a w' :=
  ⟨hi, h.size, h.defers, fun i => (h.slot i).mono K⟩
theorem StRep.put {n : Nat} {σ : St} {a : Act} {d : Option Tmp} {v : Value} {x : PV} (h : StRep fr μ n σ a w) (hd : ∀ i, d = some i → i < n) (hx : RepV w (Cold fr σ.k μ) μ v x) :
    StRep fr μ n (σ.put d x) (a.put d v) w := by
  cases d with
  | none => exact h
  | some d =>
    refine ⟨h.inv, by simp [Act.put, h.size], h.defers, fun i => ?_⟩
    simp only [Act.put, St.put, upd]
    have hd' := hd d rfl
    by_cases hi : i = d
    · subst hi
      simp only [if_true, Array.getD_eq_getD_getElem?, Array.getElem?_setIfInBounds_self, h.size, hd', Option.getD_some]
      exact hx
    · simp only [if_neg hi, Array.getD_eq_getD_getElem?]
      rw [Array.getElem?_setIfInBounds_ne (by omega)]
      have := h.slot i
      rwa [Array.getD_eq_getD_getElem?] at this

/-- The world grew: what was there is as it was. -/
theorem Keeps.below (h : Inv fr k μ w) (b : Below w.heap.size w w') : Keeps w w' (Cold fr k μ) (Cold fr k μ) μ μ where
  cell a v hc hv := ⟨hc, (b.cell (World.block_lt_of_cell? w a hv)).trans hv⟩
  used t h := h
  name t p _ h _ := h
  size t bl cs e fz h1 _ hb := ⟨cs, e, fz, by rw [← b.block bl (h.at_lt h1)]; exact hb, rfl⟩
theorem Inv.below (h : Inv fr k μ w) (b : Below w.heap.size w w') : Inv fr k μ w' where
  os := b.os.trans h.os
  tape := b.tape.trans h.tape
  output := b.output.trans h.output
  size := Nat.le_trans h.size b.size
  old i hi hl := (b.block i (Nat.lt_of_lt_of_le hi h.size)).trans (h.old i hi hl)
  used := h.used
  live t tk hk := let ⟨p, hp, hr⟩ := h.live t tk hk; ⟨p, hp, hr.mono (Keeps.below h b) (fun bl e => b.block bl (h.at_lt (e ▸ hp)))⟩
  place := h.place
  inj := h.inj
  dead := h.dead
theorem StRep.below {n : Nat} {σ : St} {a : Act} (h : StRep fr μ n σ a w) (b : Below w.heap.size w w') : StRep fr μ n σ a w' := h.step (h.inv.below b) (Keeps.below h.inv b)

/-- A new block for a new name. -/
theorem Keeps.new (h : Inv fr k μ w) {t : Nat} (hf : k t = .fresh) (o : Obj) (tk : Tok) : Keeps w (w.alloc o) (Cold fr k μ) (Cold fr (upd k t (.live tk)) (upd μ t (some (.at w.heap.size)))) μ (upd μ t (some (.at w.heap.size))) where
  cell a v hc hv := by
    have hlt := World.block_lt_of_cell? w a hv
    refine ⟨⟨hc.1, fun t' tk' b hk hm hb => ?_⟩, (by rw [World.cell?_alloc_old _ _ _ (by omega)]; exact hv)⟩
    by_cases e : t' = t
    · subst e; rw [upd_same] at hm; cases hm; omega
    · rw [upd_ne _ _ _ _ e] at hk hm; exact hc.2 t' tk' b hk hm hb
  used t' hu := by
    by_cases e : t' = t
    · subst e; rw [upd_same]; simp
    · rw [upd_ne _ _ _ _ e]; exact hu
  name t' p hu hp _ := by
    by_cases e : t' = t
    · subst e; exact absurd ((h.used t').2 hf) hu
    · rwa [upd_ne _ _ _ _ e] at hp
  size t' b cs e fz h1 _ hb := by
    have hlt := h.at_lt h1
    rw [Below.heap_alloc _ _ _ hlt] at hb
    exact ⟨cs, e, fz, hb, rfl⟩
theorem Inv.new (h : Inv fr k μ w) {t : Nat} (hf : k t = .fresh) (o : Obj) (tk : Tok)
    (htk : TokRep (w.alloc o) (Cold fr (upd k t (.live tk)) (upd μ t (some (.at w.heap.size)))) (upd μ t (some (.at w.heap.size))) (.at w.heap.size) tk) :
    Inv fr (upd k t (.live tk)) (upd μ t (some (.at w.heap.size))) (w.alloc o) where
  os := h.os
  tape := h.tape
  output := h.output
  size := by have := h.size; simp; omega
  old i hi hl := (Below.heap_alloc _ _ _ (Nat.lt_of_lt_of_le hi h.size)).trans (h.old i hi hl)
  used t' := by
    by_cases e : t' = t
    · subst e; simp [upd_same]
    · rw [upd_ne _ _ _ _ e, upd_ne _ _ _ _ e]; exact h.used t'
  live t' tk' hk := by
    by_cases e : t' = t
    · subst e; rw [upd_same] at hk; cases hk; exact ⟨_, upd_same .., htk⟩
    · rw [upd_ne _ _ _ _ e] at hk
      obtain ⟨p, hp, hr⟩ := h.live t' tk' hk
      exact ⟨p, by rw [upd_ne _ _ _ _ e]; exact hp, hr.mono (Keeps.new h hf o tk) (fun b hb => Below.heap_alloc _ _ _ (h.at_lt (hb ▸ hp)))⟩
  place t' tk' b hk hm := by
    by_cases e : t' = t
    · subst e; rw [upd_same] at hm; cases hm; exact .inr h.size
    · rw [upd_ne _ _ _ _ e] at hk hm; exact h.place t' tk' b hk hm
  inj t1 t2 tk1 tk2 b h1 h2 m1 m2 := by
    by_cases e1 : t1 = t
    · by_cases e2 : t2 = t
      · rw [e1, e2]
      · subst e1; rw [upd_same] at m1; cases m1; rw [upd_ne _ _ _ _ e2] at m2; have := h.at_lt m2; omega
    · by_cases e2 : t2 = t
      · subst e2; rw [upd_same] at m2; cases m2; rw [upd_ne _ _ _ _ e1] at m1; have := h.at_lt m1; omega
      · rw [upd_ne _ _ _ _ e1] at h1 m1; rw [upd_ne _ _ _ _ e2] at h2 m2; exact h.inj t1 t2 tk1 tk2 b h1 h2 m1 m2
  dead t' hk := by
    by_cases e : t' = t
    · subst e; rw [upd_same] at hk; cases hk
    · rw [upd_ne _ _ _ _ e] at hk ⊢; exact h.dead t' hk

/-- A block of a name whose content may be written is written. -/
theorem Keeps.write (h : Inv fr k μ w) {t b : Nat} {tk tk' : Tok} {arr old : Array Value} {e : TypeId} (hk : k t = .live tk) (hb : μ t = some (.at b)) (hwr : ∀ off, ¬ tk.cold off) (ho : w.heap[b]? = some (.cells old e (0, 0))) (hs : arr.size = old.size) :
    Keeps w (w.setRow b arr) (Cold fr k μ) (Cold fr (upd k t (.live tk')) μ) μ μ where
  cell a v hc hv := by
    have hne : a.block ≠ b := fun e => hwr _ (hc.2 t tk b hk hb e)
    refine ⟨⟨hc.1, fun t' tk'' b' hk' hm hb' => ?_⟩, (World.cell?_of_block (setRow_other w b a.block arr hne)).trans hv⟩
    by_cases e : t' = t
    · subst e; rw [hb] at hm; cases hm; exact absurd hb' hne
    · rw [upd_ne _ _ _ _ e] at hk'; exact hc.2 t' tk'' b' hk' hm hb'
  used t h := h
  name t p _ h _ := h
  size t' b' cs e' fz h1 _ hbb := by
    by_cases hne : b' = b
    · subst hne
      rw [setRow_heap w b' old arr e _ ho] at hbb
      cases hbb
      exact ⟨old, e, _, ho, hs.symm⟩
    · rw [setRow_other w b b' arr hne] at hbb; exact ⟨cs, e', fz, hbb, rfl⟩
theorem Inv.write (h : Inv fr k μ w) {t b : Nat} {tk tk' : Tok} {arr old : Array Value} {e : TypeId} (hk : k t = .live tk) (hb : μ t = some (.at b)) (ho : w.heap[b]? = some (.cells old e (0, 0)))
    (K : Keeps w (w.setRow b arr) (Cold fr k μ) (Cold fr (upd k t (.live tk')) μ) μ μ)
    (htk : TokRep (w.setRow b arr) (Cold fr (upd k t (.live tk')) μ) μ (.at b) tk') : Inv fr (upd k t (.live tk')) μ (w.setRow b arr) where
  os := h.os
  tape := h.tape
  output := h.output
  size := by simpa using h.size
  old i hi hl := by
    have hne : i ≠ b := by
      rintro rfl
      rcases h.place t tk i hk hb with h1 | h1
      · exact hl h1
      · omega
    exact (setRow_other w b i arr hne).trans (h.old i hi hl)
  used t' := by
    by_cases e : t' = t
    · subst e; rw [upd_same]; simp [hb]
    · rw [upd_ne _ _ _ _ e]; exact h.used t'
  live t' tk'' hk' := by
    by_cases e : t' = t
    · subst e; rw [upd_same] at hk'; cases hk'; exact ⟨_, hb, htk⟩
    · rw [upd_ne _ _ _ _ e] at hk'
      obtain ⟨p, hp, hr⟩ := h.live t' tk'' hk'
      refine ⟨p, hp, hr.mono K (fun b' hb' => setRow_other w b b' arr ?_)⟩
      rintro rfl
      exact e (h.inj t' t tk'' tk b' hk' hk (hb' ▸ hp) hb)
  place t' tk'' b' hk' hm := by
    by_cases e : t' = t
    · subst e; exact h.place t' tk b' hk hm
    · rw [upd_ne _ _ _ _ e] at hk'; exact h.place t' tk'' b' hk' hm
  inj t1 t2 tk1 tk2 b' h1 h2 m1 m2 := by
    have g : ∀ t' tk', upd k t (.live tk') t' = .live tk' ∨ True := fun _ _ => .inr trivial
    have hl : ∀ t' tk'', upd k t (.live tk') t' = .live tk'' → ∃ tk3, k t' = .live tk3 := by
      intro t' tk'' hh
      by_cases e : t' = t
      · subst e; exact ⟨tk, hk⟩
      · rw [upd_ne _ _ _ _ e] at hh; exact ⟨_, hh⟩
    obtain ⟨x, hx⟩ := hl _ _ h1
    obtain ⟨y, hy⟩ := hl _ _ h2
    exact h.inj t1 t2 x y b' hx hy m1 m2
  dead t' hk' := by
    by_cases e : t' = t
    · subst e; rw [upd_same] at hk'; cases hk'
    · rw [upd_ne _ _ _ _ e] at hk'; exact h.dead t' hk'

/-- Names are no longer used, or no longer written: more cells stay as they are. -/
def Less (k k' : Nat → TS) : Prop := ∀ t, k' t = k t ∨ (∃ tk, k t = .live tk ∧ k' t = .dead) ∨
  (∃ cs wr, k t = .live (.box cs wr) ∧ k' t = .live (.box cs false)) ∨ (∃ e sz es wr, k t = .live (.row e sz es wr) ∧ k' t = .live (.row e sz es false))
noncomputable def lessμ (k' : Nat → TS) (μ : Nat → Option Pl) : Nat → Option Pl := fun t => match k' t with | .dead => some .dead | _ => μ t
theorem Keeps.less (h : Inv fr k μ w) (hl : Less k k') : Keeps w w (Cold fr k μ) (Cold fr k' (lessμ k' μ)) μ (lessμ k' μ) where
  cell a v hc hv := by
    refine ⟨⟨hc.1, fun t tk b hk hm hb => ?_⟩, hv⟩
    simp only [lessμ, hk] at hm
    rcases hl t with e | ⟨tk', _, e⟩ | ⟨cs, wr, e1, e2⟩ | ⟨e', sz, es, wr, e1, e2⟩
    · exact hc.2 t tk b (e ▸ hk) hm hb
    · rw [e] at hk; cases hk
    · rw [e2] at hk; cases hk
      exact ⟨rfl, (hc.2 t _ b e1 hm hb).2⟩
    · rw [e2] at hk; cases hk
      exact ⟨rfl, (hc.2 t _ b e1 hm hb).2⟩
  used t hu := by
    simp only [lessμ]
    split
    · simp
    · exact hu
  name t p hu hp hd := by
    simp only [lessμ] at hp
    split at hp
    · cases hp; exact absurd rfl hd
    · exact hp
  size t b cs e fz _ _ hb := ⟨cs, e, fz, hb, rfl⟩
theorem Inv.less (h : Inv fr k μ w) (hl : Less k k') : Inv fr k' (lessμ k' μ) w := by
  have K := Keeps.less h hl
  have hlive : ∀ t tk, k' t = .live tk → ∃ tk0, k t = .live tk0 := by
    intro t tk hk
    rcases hl t with e | ⟨tk', _, e⟩ | ⟨cs, wr, e1, e2⟩ | ⟨e', sz, es, wr, e1, e2⟩
    · exact ⟨tk, e ▸ hk⟩
    · rw [e] at hk; cases hk
    · exact ⟨_, e1⟩
    · exact ⟨_, e1⟩
  have hμ : ∀ t tk, k' t = .live tk → lessμ k' μ t = μ t := fun t tk hk => by simp only [lessμ, hk]
  refine ⟨h.os, h.tape, h.output, h.size, h.old, fun t => ?_, fun t tk hk => ?_, fun t tk b hk hm => ?_, fun t1 t2 tk1 tk2 b h1 h2 m1 m2 => ?_, fun t hk => by simp only [lessμ, hk]⟩
  · rcases hl t with e | ⟨tk', e0, e⟩ | ⟨cs, wr, e1, e2⟩ | ⟨e', sz, es, wr, e1, e2⟩
    · simp only [lessμ]
      split
      · rename_i hd; simp [hd]
      · rw [e]; exact h.used t
    · simp [lessμ, e]
    · have := h.used t; rw [e1] at this; simp [lessμ, e2]; intro hn; simp [this] at hn
    · have := h.used t; rw [e1] at this; simp [lessμ, e2]; intro hn; simp [this] at hn
  · rcases hl t with e | ⟨tk', _, e⟩ | ⟨cs, wr, e1, e2⟩ | ⟨e', sz, es, wr, e1, e2⟩
    · obtain ⟨p, hp, hr⟩ := h.live t tk (e ▸ hk)
      exact ⟨p, (hμ t tk hk).trans hp, hr.mono K (fun _ _ => rfl)⟩
    · rw [e] at hk; cases hk
    · obtain ⟨p, hp, hr⟩ := h.live t _ e1
      have hr' := hr.mono K (fun _ _ => rfl)
      rw [e2] at hk; cases hk
      exact ⟨p, (hμ t _ e2).trans hp, hr'⟩
    · obtain ⟨p, hp, hr⟩ := h.live t _ e1
      have hr' := hr.mono K (fun _ _ => rfl)
      rw [e2] at hk; cases hk
      exact ⟨p, (hμ t _ e2).trans hp, hr'⟩
  · obtain ⟨tk0, h0⟩ := hlive t tk hk
    rw [hμ t tk hk] at hm
    exact h.place t tk0 b h0 hm
  · obtain ⟨x, hx⟩ := hlive _ _ h1
    obtain ⟨y, hy⟩ := hlive _ _ h2
    rw [hμ _ _ h1] at m1
    rw [hμ _ _ h2] at m2
    exact h.inj t1 t2 x y b hx hy m1 m2
theorem StRep.less {n : Nat} {σ : St} {a : Act} (h : StRep fr μ n σ a w) (hl : Less σ.k k') : StRep fr (lessμ k' μ) n ⟨σ.g, k'⟩ a w := h.step (h.inv.less hl) (Keeps.less h.inv hl)
end

end Go.V
/- The value logic, part 4: operations that read memory, and new variables. Nothing is assumed. -/
set_option linter.unusedVariables false
set_option linter.unusedSimpArgs false
namespace Go.V
open Go.RowKit (Below)

section
variable {P : Program} {fr : Fr} {μ μ' : Nat → Option Pl} {k k' : Nat → TS} {w w' : World}

theorem view_rep (hi : Inv fr k μ w) {v : Value} {p : PV} {xs : List PV} {off : Nat} (h : RepV w (Cold fr k μ) μ v p) (hv : view k p = some (xs, off)) :
    ∃ b o, v = .pointer (some ⟨b, o + off, none⟩) ∧ ∀ (j : Nat) (x : PV), xs[j]? = some x → ∃ u, w.cell? ⟨b, o + j, none⟩ = some u ∧ RepV w (Cold fr k μ) μ u x := by
  unfold view at hv
  split at hv
  · cases hv
    cases h with
    | base _ _ h => cases h with
      | pro b o off xs u hcell hC h =>
        refine ⟨b, o, rfl, fun j x hx => ?_⟩
        obtain ⟨hj, _⟩ := List.getElem?_eq_some_iff.1 hx
        exact ⟨u j, hcell j hj, .base _ _ (h j x hx)⟩
  · rename_i t off'
    split at hv
    · rename_i xs' wr hk
      cases hv
      cases h with
      | base _ _ h => cases h
      | ptr _ _ _ hu hn hat =>
        obtain ⟨p, hp, b, cs, e, rfl, hh, hs, hc⟩ := hi.live t _ hk
        refine ⟨b, 0, by rw [hat b hp]; simp, fun j x hx => ?_⟩
        obtain ⟨u, hu, hr⟩ := hc j x hx
        exact ⟨u, by rw [Nat.zero_add, cell_of_row w b j cs e _ hh]; exact hu, hr⟩
    · cases hv
  · rename_i t sz i off'
    split at hv
    · rename_i e sz' es wr hk
      split at hv
      · rename_i hsz
        subst hsz
        split at hv
        · rename_i x0 hx0
          cases hv
          cases h with
          | base _ _ h => cases h
          | ep _ _ _ _ _ hu hn hat =>
            obtain ⟨p, hp, hpos, hr⟩ := hi.live t _ hk
            rcases hr with ⟨rfl, rfl⟩ | ⟨b, cs, c, rfl, hh, hs, hle, hm, hc⟩
            · exact absurd hp hn
            · refine ⟨b, i * sz, by rw [hat b hp], fun j x hx => ?_⟩
              obtain ⟨u, hu, hr⟩ := hc i j _ x hx0 hx
              exact ⟨u, by rw [cell_of_row w b _ cs e _ hh]; exact hu, hr⟩
        · cases hv
      · cases hv
    · cases hv
  · cases hv

def sub (xs : List PV) (off s : Nat) : List PV := (xs.drop off).take s
def ld (P : Program) (k : Nat → TS) (t : TypeId) (p : PV) : Option PV :=
  match view k p, tyAgg P t with
  | some (xs, off), some (true, s) => if off + s ≤ xs.length then some (.agg (sub xs off s)) else none
  | some (xs, off), some (false, _) => xs[off]?
  | _, _ => none
theorem run_ld (hi : Inv fr k μ w) {v : Value} {p z : PV} {t : TypeId} (h : RepV w (Cold fr k μ) μ v p) (hl : ld P k t p = some z) :
    ∃ u, (Instr.loadAt t v).run P w = .ok u w ∧ RepV w (Cold fr k μ) μ u z := by
  unfold ld at hl
  split at hl
  · rename_i xs off s hv ht
    obtain ⟨b, o, rfl, hc⟩ := view_rep hi h hv
    split at hl
    · rename_i hle
      cases hl
      have ⟨h1, h2⟩ := tyAgg_run ht w
      have hex : ∀ j, ∃ u, j < s → (w.cell? ⟨b, o + off + j, none⟩ = some u ∧ ∀ x, xs[off + j]? = some x → RepV w (Cold fr k μ) μ u x) := by
        intro j
        by_cases hj : j < s
        · have hx : xs[off + j]? = some xs[off + j] := List.getElem?_eq_getElem (by omega)
          obtain ⟨u, hu, hr⟩ := hc _ _ hx
          refine ⟨u, fun _ => ⟨by rw [Nat.add_assoc]; exact hu, fun x hx' => ?_⟩⟩
          rw [hx] at hx'; cases hx'; exact hr
        · exact ⟨undef, fun h => absurd h hj⟩
      let f : Nat → Value := fun j => Classical.choose (hex j)
      have hf : ∀ j, j < s → (w.cell? ⟨b, o + off + j, none⟩ = some (f j) ∧ ∀ x, xs[off + j]? = some x → RepV w (Cold fr k μ) μ (f j) x) := fun j hj => Classical.choose_spec (hex j) hj
      have hrun := run_loadCells (P := P) w ⟨b, o + off, none⟩ s f (fun j hj => by rw [Addr.add_lit]; exact (hf j hj).1)
      refine ⟨.agg ((List.range s).map f).toArray, ?_, ?_⟩
      · simp only [Instr.loadAt, Instr.sureAddr, loadVar, Sem.run_bind, Sem.run_pure, Result.andThen, h1, if_true, h2, hrun]
      · refine .agg _ _ (by simp [sub]; omega) (fun i v x hv hx => ?_)
        simp only [List.getElem?_toArray, List.getElem?_map] at hv
        by_cases hi' : i < s
        · rw [List.getElem?_range hi'] at hv
          cases hv
          simp only [sub, List.getElem?_take, hi', if_true, List.getElem?_drop] at hx
          exact (hf i hi').2 x hx
        · rw [List.getElem?_eq_none (by simp; omega)] at hv; cases hv
    · cases hl
  · rename_i xs off s hv ht
    obtain ⟨b, o, rfl, hc⟩ := view_rep hi h hv
    have ⟨h1, h2⟩ := tyAgg_run ht w
    obtain ⟨u, hu, hr⟩ := hc off z hl
    refine ⟨u, ?_, hr⟩
    simp only [Instr.loadAt, Instr.sureAddr, loadVar, Sem.run_bind, Sem.run_pure, Result.andThen, h1, Bool.false_eq_true, if_false, run_load, hu]
  · cases hl

/-! ### Addresses of fields and elements -/
def fa (P : Program) (s : TypeId) (f : Nat) : PV → Option PV
  | .pro xs off => (tyField P s f).map fun o => .pro xs (off + o)
  | .ptr t off => (tyField P s f).map fun o => .ptr t (off + o)
  | .ep t sz i off => (tyField P s f).map fun o => .ep t sz i (off + o)
  | _ => none
theorem run_fieldAt {s : TypeId} {f o : Nat} (h : tyField P s f = some o) (b off : Nat) (w : World) : (Instr.fieldAt s (.pointer (some ⟨b, off, none⟩)) f).run P w = .ok (.pointer (some ⟨b, off + o, none⟩)) w := by
  unfold tyField at h
  split at h
  · rename_i fs hu
    split at h
    · rename_i fl hf
      split at h
      · rename_i i hi
        split at h
        · cases h
        · rename_i hs
          cases h
          simp only [Instr.fieldAt, Sem.run_bind, run_underlying hu, Result.andThen, hf, Instr.sureAddr, Sem.run_pure, fieldPlace, sizeOf, typeInfo]
          simp [hi, hs, Addr.add_lit]
      · cases h
    · cases h
  · cases h
theorem ptr_at (hi : Inv fr k μ w) {t : Nat} (hu : μ t ≠ none) (hn : μ t ≠ some .nil) : (∃ b, μ t = some (.at b)) ∨ μ t = some .dead := by
  cases h : μ t with
  | none => exact absurd h hu
  | some p => cases p with
    | dead => exact .inr rfl
    | nil => exact absurd h hn
    | «at» b => exact .inl ⟨b, rfl⟩
/-- Names that are in use. -/
def isLive (k : Nat → TS) (t : Nat) : Bool := match k t with | .live _ => true | _ => false
theorem live_at (hi : Inv fr k μ w) {t : Nat} (hl : isLive k t = true) (hn : μ t ≠ some .nil) : ∃ b, μ t = some (.at b) := by
  unfold isLive at hl
  split at hl
  · rename_i tk hk
    obtain ⟨p, hp, hr⟩ := hi.live t tk hk
    cases p with
    | dead =>
      cases tk with
      | box xs wr => obtain ⟨b, cs, e, hb, _⟩ := hr; cases hb
      | row e sz es wr => rcases hr.2 with ⟨h, _⟩ | ⟨b, cs, c, hb, _⟩ <;> contradiction
      | map m => obtain ⟨b, es, cl, hb, _⟩ := hr; cases hb
      | arr e sz es => obtain ⟨_, b, cs, hb, _⟩ := hr; cases hb
    | nil => exact absurd hp hn
    | «at» b => exact ⟨b, hp⟩
  · cases hl
def ptLive (k : Nat → TS) : PV → Bool
  | .ptr t _ => isLive k t
  | .ep t _ _ _ => isLive k t
  | _ => true
theorem run_fa (hi : Inv fr k μ w) {s : TypeId} {f : Nat} {v : Value} {p z : PV} (h : RepV w (Cold fr k μ) μ v p) (hlv : ptLive k p = true) (hl : fa P s f p = some z) :
    ∃ u, (Instr.fieldAt s v f).run P w = .ok u w ∧ RepV w (Cold fr k μ) μ u z := by
  unfold fa at hl
  split at hl
  · cases ht : tyField P s f with
    | none => simp [ht] at hl
    | some o =>
      simp only [ht, Option.map_some] at hl
      cases hl
      cases h with
      | base _ _ h => cases h with
        | pro b o' off xs u hcell hC h =>
          exact ⟨_, run_fieldAt ht _ _ _, .base _ _ (by rw [Nat.add_assoc]; exact .pro b o' _ _ u hcell hC h)⟩
  · cases ht : tyField P s f with
    | none => simp [ht] at hl
    | some o =>
      simp only [ht, Option.map_some] at hl
      cases hl
      cases h with
      | base _ _ h => cases h
      | ptr t off v hu hn hat =>
        obtain ⟨b, hb⟩ := live_at hi hlv hn
        obtain rfl := hat b hb
        exact ⟨_, run_fieldAt ht _ _ _, .ptr _ _ _ hu hn (fun b' hb' => by rw [hb] at hb'; cases hb'; rfl)⟩
  · cases ht : tyField P s f with
    | none => simp [ht] at hl
    | some o =>
      simp only [ht, Option.map_some] at hl
      cases hl
      cases h with
      | base _ _ h => cases h
      | ep t sz i off v hu hn hat =>
        obtain ⟨b, hb⟩ := live_at hi hlv hn
        obtain rfl := hat b hb
        exact ⟨_, run_fieldAt ht _ _ _, .ep _ _ _ _ _ hu hn (fun b' hb' => by rw [hb] at hb'; cases hb'; simp [Nat.add_assoc])⟩
  · cases hl

def ia (P : Program) (t : TypeId) : PV → PV → Option PV
  | .sl es, .int _ i => match tyElem P t with
    | some (_, sz) => if 0 ≤ i then match es[i.toNat]? with
      | some c => if c.length = sz then some (.pro c 0) else none
      | none => none
      else none
    | none => none
  | .ref tk sz lo n, .int _ i => match tyElem P t with
    | some (_, sz') => if 0 ≤ i ∧ i < n ∧ sz = sz' then some (.ep tk sz (lo + i.toNat) 0) else none
    | none => none
  | _, _ => none
theorem tyElem_run {t e : TypeId} {sz : Nat} (h : tyElem P t = some (e, sz)) : P.underlying t = some (.slice e) ∧ ∃ i, P.info? e = some i ∧ i.size = sz := by
  unfold tyElem at h
  split at h
  · rename_i e' hu
    split at h
    · rename_i i hi
      cases h
      exact ⟨hu, i, hi, rfl⟩
    · cases h
  · cases h
theorem run_indexAt' {t e : TypeId} {sz : Nat} (h : tyElem P t = some (e, sz)) (a : Addr) (n c : Nat) (kd : IntKind) (i : Int) (h0 : 0 ≤ i) (h1 : i < n) (w : World) :
    (Instr.indexAt t (.slice (some a) n c) (.int kd i)).run P w = .ok (.pointer (some (a.add (i.toNat * sz)))) w := by
  obtain ⟨hu, inf, hi, rfl⟩ := tyElem_run h
  simp only [Instr.indexAt, asIntOf, Sem.run_bind, Sem.run_pure, Result.andThen, run_underlying hu]
  rw [if_pos ⟨h0, h1⟩]
  simp [sizeOf, typeInfo, hi]
def refLive (k : Nat → TS) : PV → Bool
  | .ref tk _ _ _ => isLive k tk
  | _ => true
theorem run_ia (hi : Inv fr k μ w) {t : TypeId} {v u : Value} {p q z : PV} (h : RepV w (Cold fr k μ) μ v p) (hq : RepV w (Cold fr k μ) μ u q) (hlv : refLive k p = true) (hl : ia P t p q = some z) :
    ∃ u', (Instr.indexAt t v u).run P w = .ok u' w ∧ RepV w (Cold fr k μ) μ u' z := by
  unfold ia at hl
  split at hl
  · rename_i es kd i
    obtain rfl := hq.int_inv
    split at hl
    · rename_i e sz ht
      split at hl
      · rename_i h0
        split at hl
        · rename_i c hc
          split at hl
          · rename_i hsz
            cases hl
            obtain ⟨hlt, _⟩ := List.getElem?_eq_some_iff.1 hc
            cases h.sl_inv with
            | sl0 A c => simp at hlt
            | sl b o c' n sz0 es' us hn hpos hcap hlen hcell hC hrep =>
              have hmem : c ∈ es := List.mem_of_getElem? hc
              have : sz0 = sz := by rw [← hlen c hmem]; exact hsz
              subst this
              refine ⟨_, run_indexAt' ht _ _ _ _ _ h0 (by omega) w, .base _ _ ?_⟩
              rw [Addr.add_lit]
              exact .pro b (o + i.toNat * sz0) 0 c (us i.toNat) (fun j hj => hcell _ j hlt (by rw [hlen c hmem] at hj; exact hj)) (fun j hj => hC _ j hlt (by rw [hlen c hmem] at hj; exact hj)) (fun j x hx => hrep _ j c x hc hx)
          · cases hl
        · cases hl
      · cases hl
    · cases hl
  · rename_i tk sz lo n kd i
    obtain rfl := hq.int_inv
    split at hl
    · rename_i e sz' ht
      split at hl
      · rename_i hc
        obtain ⟨h0, h1, rfl⟩ := hc
        cases hl
        cases h with
        | base _ _ h => cases h
        | ref _ _ _ _ _ hu hn hat =>
          have hnn : μ tk ≠ some .nil := fun e => by have := (hn e).2.1; omega
          obtain ⟨b, hb⟩ := live_at hi hlv hnn
          obtain ⟨A, c, rfl, hnc, hA, hcap⟩ := hat b hb
          have hA' : A = some ⟨b, lo * sz, none⟩ := hA.resolve_left (by omega)
          subst hA'
          refine ⟨_, run_indexAt' ht _ _ _ _ _ h0 (by omega) w, ?_⟩
          rw [Addr.add_lit]
          exact .ep _ _ _ _ _ hu hnn (fun b' hb' => by rw [hb] at hb'; cases hb'; simp [Nat.add_mul])
      · cases hl
    · cases hl
  · cases hl
end

end Go.V
/- The value logic, part 5: cuts of slices, new variables, values that are built, stores. Nothing is assumed. -/
set_option linter.unusedVariables false
set_option linter.unusedSimpArgs false
namespace Go.V
open Go.RowKit (Below)

section
variable {P : Program} {fr : Fr} {μ μ' : Nat → Option Pl} {k k' : Nat → TS} {w w' : World}

/-! ### A cut of a slice -/
def szAll (es : List (List PV)) (sz : Nat) : Bool := es.all fun e => e.length == sz
def bnd (n : Nat) : Option PV → Option PV → Option (Nat × Nat)
  | none, none => some (0, n)
  | some (.int _ i), none => if 0 ≤ i ∧ i ≤ n then some (i.toNat, n) else none
  | none, some (.int _ j) => if 0 ≤ j ∧ j ≤ n then some (0, j.toNat) else none
  | some (.int _ i), some (.int _ j) => if 0 ≤ j ∧ j ≤ n ∧ 0 ≤ i ∧ i ≤ j then some (i.toNat, j.toNat) else none
  | _, _ => none
def sla (P : Program) (t : TypeId) (x : PV) (lo hi : Option PV) : Option PV :=
  match x with
  | .sl es => match tyElem P t, bnd es.length lo hi with
    | some (_, sz), some (l, h) => if szAll es sz then some (.sl ((es.take h).drop l)) else none
    | _, _ => none
  | .ref tk sz l0 n => match tyElem P t, bnd n lo hi with
    | some (_, sz'), some (l, h) => if sz = sz' then some (.ref tk sz (l0 + l) (h - l)) else none
    | _, _ => none
  | _ => none
def ORep (w : World) (C : Addr → Prop) (μ : Nat → Option Pl) (p : Option PV) (v : Option Value) : Prop := match p, v with | some p, some v => RepV w C μ v p | none, none => True | _, _ => False
theorem ORep.none_inv {C : Addr → Prop} {v : Option Value} (h : ORep w C μ none v) : v = none := by cases v with | none => rfl | some v => exact h.elim
theorem ORep.int_inv {C : Addr → Prop} {kd : IntKind} {i : Int} {v : Option Value} (h : ORep w C μ (some (.int kd i)) v) : v = some (.int kd i) := by cases v with | none => exact h.elim | some v => exact congrArg some (RepV.int_inv h)
theorem bnd_run {n c : Nat} {lo hi : Option PV} {l h : Nat} (hb : bnd n lo hi = some (l, h)) (hc : n ≤ c) {C : Addr → Prop} {vl vh : Option Value}
    (hl : ORep w C μ lo vl) (hh : ORep w C μ hi vh) :
    l ≤ h ∧ h ≤ n ∧ (Instr.sliceBounds true n c vl vh none).run P w = .ok (l, h, c) w := by
  unfold bnd at hb
  split at hb
  · cases hb
    obtain rfl := hl.none_inv
    obtain rfl := hh.none_inv
    exact ⟨by omega, by omega, rfl⟩
  · obtain rfl := hl.int_inv
    obtain rfl := hh.none_inv
    split at hb
    · rename_i h0
      cases hb
      refine ⟨by omega, by omega, ?_⟩
      simp only [Instr.sliceBounds, Instr.sliceBound, asIntOf, Sem.run_bind, Sem.run_pure, Result.andThen]
      rw [if_pos h0]; rfl
    · cases hb
  · obtain rfl := hl.none_inv
    obtain rfl := hh.int_inv
    split at hb
    · rename_i h0
      cases hb
      refine ⟨by omega, by omega, ?_⟩
      simp only [Instr.sliceBounds, Instr.sliceBound, asIntOf, Sem.run_bind, Sem.run_pure, Result.andThen]
      rw [if_pos ⟨h0.1, by omega⟩]; rfl
    · cases hb
  · obtain rfl := hl.int_inv
    obtain rfl := hh.int_inv
    split at hb
    · rename_i h0
      cases hb
      refine ⟨by omega, by omega, ?_⟩
      simp only [Instr.sliceBounds, Instr.sliceBound, asIntOf, Sem.run_bind, Sem.run_pure, Result.andThen]
      rw [if_pos ⟨h0.1, by omega⟩]
      simp only [Sem.run_bind, Sem.run_pure, Result.andThen]
      rw [if_pos ⟨h0.2.2.1, by omega⟩]; rfl
    · cases hb
  · cases hb
theorem run_sliceAt' {t e : TypeId} {sz : Nat} (ht : tyElem P t = some (e, sz)) (A : Option Addr) (n c l h : Nat) (vl vh : Option Value) (hb : (Instr.sliceBounds true n c vl vh none).run P w = .ok (l, h, c) w) :
    (Instr.sliceAt t (.slice A n c) vl vh none).run P w = .ok (.slice (if c = l then A else A.map (·.add (l * sz))) (h - l) (c - l)) w := by
  obtain ⟨hu, inf, hi, rfl⟩ := tyElem_run ht
  simp only [Instr.sliceAt, Sem.run_bind, run_underlying hu, Result.andThen, Instr.slice, hb, sizeOf, typeInfo]
  simp [hi]
theorem run_sla (hi : Inv fr k μ w) {t : TypeId} {v : Value} {vl vh : Option Value} {x z : PV} {lo h : Option PV} (hx : RepV w (Cold fr k μ) μ v x)
    (hlv : refLive k x = true)
    (hl : ORep w (Cold fr k μ) μ lo vl) (hh : ORep w (Cold fr k μ) μ h vh) (hs : sla P t x lo h = some z) :
    ∃ u, (Instr.sliceAt t v vl vh none).run P w = .ok u w ∧ RepV w (Cold fr k μ) μ u z := by
  unfold sla at hs
  split at hs
  · rename_i es
    split at hs
    · rename_i e sz l h' ht hb
      split at hs
      · rename_i hsz
        cases hs
        cases hx.sl_inv with
        | sl0 A c =>
          obtain ⟨h1, h2, hr⟩ := bnd_run (P := P) hb (Nat.zero_le c) hl hh
          refine ⟨_, run_sliceAt' ht _ _ _ _ _ _ _ hr, .base _ _ ?_⟩
          have h2' : h' = 0 := by simpa using h2
          have : h' - l = 0 := by omega
          rw [this]
          simp only [List.take_nil, List.drop_nil]
          exact .sl0 _ _
        | sl b o c n sz0 es' us hn hpos hcap hlen hcell hC hrep =>
          subst hn
          obtain ⟨h1, h2, hr⟩ := bnd_run (P := P) hb hcap hl hh
          refine ⟨_, run_sliceAt' ht _ _ _ _ _ _ _ hr, .base _ _ ?_⟩
          by_cases hlh : l = h'
          · subst hlh
            rw [Nat.sub_self, List.drop_of_length_le (by simp; omega)]
            exact .sl0 _ _
          · rw [if_neg (by omega)]
            have hne : 0 < es.length := by omega
            have hsz0 : sz0 = sz := by
              have hm := List.getElem_mem (l := es) hne
              have a1 := hlen _ hm
              have a2 := List.all_eq_true.1 hsz _ hm
              simp at a2
              omega
            subst hsz0
            simp only [Option.map_some, Addr.add_lit]
            have hlen' : ((es.take h').drop l).length = h' - l := by simp; omega
            have hget : ∀ i, i < h' - l → ((es.take h').drop l)[i]? = es[l + i]? := fun i hi' => by
              rw [List.getElem?_drop, List.getElem?_take, if_pos (by omega)]
            have hoff : ∀ i j, o + l * sz0 + i * sz0 + j = o + (l + i) * sz0 + j := fun i j => by rw [Nat.add_mul]; omega
            refine .sl b (o + l * sz0) (c - l) _ sz0 _ (fun i j => us (l + i) j) hlen'.symm hpos (by omega) (fun e he => hlen e (List.mem_of_mem_take (List.mem_of_mem_drop he))) (fun i j hi' hj => ?_) (fun i j hi' hj => ?_) (fun i j e x he hx => ?_)
            · rw [hoff]; exact hcell (l + i) j (by omega) hj
            · rw [hoff]; exact hC (l + i) j (by omega) hj
            · obtain ⟨hi', _⟩ := List.getElem?_eq_some_iff.1 he
              rw [hget i (by omega)] at he
              exact hrep (l + i) j e x he hx
      · cases hs
    · cases hs
  · rename_i tk sz l0 n
    split at hs
    · rename_i e sz' l h' ht hb
      split at hs
      · rename_i hsz
        subst hsz
        cases hs
        cases hx with
        | base _ _ h => cases h
        | ref _ _ _ _ _ hu hn hat =>
          by_cases hnn : μ tk = some .nil
          · obtain ⟨rfl, rfl, rfl⟩ := hn hnn
            obtain ⟨h1, h2, hr⟩ := bnd_run (P := P) hb (Nat.le_refl 0) hl hh
            refine ⟨_, run_sliceAt' ht _ _ _ _ _ _ _ hr, ?_⟩
            obtain rfl : h' = 0 := by omega
            obtain rfl : l = 0 := by omega
            exact .ref _ _ _ _ _ hu (fun _ => ⟨rfl, rfl, rfl⟩) (fun b hb => by rw [hnn] at hb; cases hb)
          · obtain ⟨b, hb'⟩ := live_at hi hlv hnn
            obtain ⟨A, c, rfl, hnc, hA, hcap⟩ := hat b hb'
            obtain ⟨h1, h2, hr⟩ := bnd_run (P := P) hb hnc hl hh
            refine ⟨_, run_sliceAt' ht _ _ _ _ _ _ _ hr, .ref _ _ _ _ _ hu (fun h => absurd h hnn) (fun b2 hb2 => ?_)⟩
            rw [hb'] at hb2; cases hb2
            refine ⟨_, _, rfl, by omega, ?_, fun cs e fz hbk => ?_⟩
            · by_cases hcl : c = l
              · left; omega
              · right
                rw [if_neg hcl, hA.resolve_left (by omega)]
                simp [Addr.add_lit, Nat.add_mul]
            · have := hcap cs e fz hbk
              rw [← this]; congr 1; omega
      · cases hs
    · cases hs
  · cases hs

/-! ### Values of one cell -/
def PV.one (k : Nat → TS) : PV → Bool
  | .any => false
  | .und _ => false
  | .agg _ => false
  | .tup _ => false
  | .ref t _ _ _ => isLive k t
  | .ptr t _ => isLive k t
  | .ep t _ _ _ => isLive k t
  | .mp t => isLive k t
  | _ => true
def PV.cells : PV → List PV
  | .agg xs => xs
  | x => [x]
theorem one_val (hi : Inv fr k μ w) {v : Value} {x : PV} (h : RepV w (Cold fr k μ) μ v x) (ho : x.one k = true) : v.oneCell' = true ∧ v.cells = #[v] := by
  cases h with
  | base _ _ h => cases h <;> first | exact ⟨rfl, rfl⟩ | cases ho
  | und x => cases ho
  | fn f cs xs hl h => exact ⟨rfl, rfl⟩
  | agg cs xs hl h => cases ho
  | tup cs xs hl h => cases ho
  | ref t sz lo n v hu hn hat =>
    by_cases hnn : μ t = some .nil
    · obtain ⟨_, _, rfl⟩ := hn hnn; exact ⟨rfl, rfl⟩
    · obtain ⟨b, hb⟩ := live_at hi ho hnn
      obtain ⟨A, c, rfl, _⟩ := hat b hb
      exact ⟨rfl, rfl⟩
  | ptr t off v hu hn hat => obtain ⟨b, hb⟩ := live_at hi ho hn; obtain rfl := hat b hb; exact ⟨rfl, rfl⟩
  | ep t sz i off v hu hn hat => obtain ⟨b, hb⟩ := live_at hi ho hn; obtain rfl := hat b hb; exact ⟨rfl, rfl⟩
  | mp t v hu hn hat => obtain ⟨b, hb⟩ := live_at hi ho hn; obtain rfl := hat b hb; exact ⟨rfl, rfl⟩
/-- The cells of a value that can be stored. -/
def PV.oks (k : Nat → TS) : PV → Bool
  | .agg xs => xs.all (·.one k)
  | x => x.one k
theorem cells_rep (hi : Inv fr k μ w) {v : Value} {x : PV} (h : RepV w (Cold fr k μ) μ v x) (ho : x.oks k = true) :
    v.cells.size = x.cells.length ∧ (∀ (i : Nat) (u : Value) (y : PV), v.cells[i]? = some u → x.cells[i]? = some y → RepV w (Cold fr k μ) μ u y) ∧ ∀ u ∈ v.cells.toList, u.oneCell' = true := by
  by_cases hx : ∃ xs, x = .agg xs
  · obtain ⟨xs, rfl⟩ := hx
    obtain ⟨cs, rfl, hl, hr⟩ := h.agg_inv
    refine ⟨hl, hr, fun u hu => ?_⟩
    obtain ⟨i, hi', he⟩ := List.mem_iff_getElem.1 hu
    have hic : i < cs.size := by simpa [Value.cells] using hi'
    have h1 : cs[i]? = some u := by rw [Array.getElem?_eq_getElem hic]; exact congrArg some (by simpa [Value.cells] using he)
    have h2 : xs[i]? = some xs[i] := List.getElem?_eq_getElem (by omega)
    exact (one_val hi (hr i _ _ h1 h2) (List.all_eq_true.1 ho _ (List.getElem_mem _))).1
  · have hc : x.cells = [x] := by cases x <;> first | rfl | exact absurd ⟨_, rfl⟩ hx
    have ho' : x.one k = true := by cases x <;> first | exact ho | exact absurd ⟨_, rfl⟩ hx
    obtain ⟨h1, h2⟩ := one_val hi h ho'
    rw [hc, h2]
    refine ⟨rfl, fun i u y hu hy => ?_, fun u hu => ?_⟩
    · cases i with
      | zero => simp at hu hy; subst hu; subst hy; exact h
      | succ i => simp at hy
    · simp at hu; subst hu; exact h1

/-! ### A new variable -/
theorem run_box (e : TypeId) (v : Value) (w : World) : (Instr.box e v).run P w = .ok (.pointer (some ⟨w.heap.size, 0, none⟩)) (w.alloc (.cells v.cells e)) := by
  rfl
theorem new_box (hi : Inv fr k μ w) {v : Value} {x : PV} (h : RepV w (Cold fr k μ) μ v x) (ho : x.oks k = true) {t : Nat} (hf : k t = .fresh) (e : TypeId) :
    let k' := upd k t (.live (.box x.cells true)); let μ' := upd μ t (some (.at w.heap.size)); let w' := w.alloc (.cells v.cells e)
    Inv fr k' μ' w' ∧ Keeps w w' (Cold fr k μ) (Cold fr k' μ') μ μ' ∧ RepV w' (Cold fr k' μ') μ' (.pointer (some ⟨w.heap.size, 0, none⟩)) (.ptr t 0) := by
  intro k' μ' w'
  obtain ⟨hs, hr, _⟩ := cells_rep hi h ho
  have K := Keeps.new hi hf (.cells v.cells e) (.box x.cells true)
  refine ⟨Inv.new hi hf _ _ ⟨w.heap.size, v.cells, e, rfl, heap_alloc_new w _, hs, fun i y hy => ?_⟩, K, .ptr _ _ _ (by simp [μ', upd_same]) (by simp [μ', upd_same]) (fun b hb => by simp only [μ', upd_same] at hb; cases hb; rfl)⟩
  obtain ⟨hi', _⟩ := List.getElem?_eq_some_iff.1 hy
  have hv : v.cells[i]? = some v.cells[i] := Array.getElem?_eq_getElem (by omega)
  exact ⟨_, hv, (hr i _ _ hv hy).mono K⟩

/-! ### Zero values -/
def tyZero (P : Program) (t : TypeId) : Option (List PV) :=
  match P.info? t with
  | some i => match i.zero with
    | some z => some (z.cells.toList.map PV.ofValue)
    | none => none
  | none => none
theorem tyZero_run {t : TypeId} {xs : List PV} (h : tyZero P t = some xs) (w : World) : ∃ z, (zeroValue t).run P w = .ok z w ∧ xs = z.cells.toList.map PV.ofValue ∧ ∃ i, P.info? t = some i ∧ i.zero = some z := by
  unfold tyZero at h
  split at h
  · rename_i i hi
    split at h
    · rename_i z hz
      cases h
      refine ⟨z, ?_, rfl, i, hi, hz⟩
      simp only [zeroValue, typeInfo, Sem.run_bind]
      simp [hi, hz]
    · cases h
  · cases h
theorem run_alloc {e : TypeId} {xs : List PV} (h : tyZero P e = some xs) (w : World) :
    ∃ z : Value, xs = z.cells.toList.map PV.ofValue ∧ (Instr.alloc e true (.tuple #[])).run P w = .ok (.pointer (some ⟨w.heap.size, 0, none⟩)) (w.alloc (.cells z.cells e)) := by
  obtain ⟨z, hz, hx, _⟩ := tyZero_run h w
  refine ⟨z, hx, ?_⟩
  simp only [Instr.alloc, Sem.run_bind, hz, Result.andThen]
  rfl
theorem new_zero (hi : Inv fr k μ w) {z : Value} {xs : List PV} (hx : xs = z.cells.toList.map PV.ofValue) {t : Nat} (hf : k t = .fresh) (e : TypeId) :
    let k' := upd k t (.live (.box xs true)); let μ' := upd μ t (some (.at w.heap.size)); let w' := w.alloc (.cells z.cells e)
    Inv fr k' μ' w' ∧ Keeps w w' (Cold fr k μ) (Cold fr k' μ') μ μ' ∧ RepV w' (Cold fr k' μ') μ' (.pointer (some ⟨w.heap.size, 0, none⟩)) (.ptr t 0) := by
  intro k' μ' w'
  have K := Keeps.new hi hf (.cells z.cells e) (.box xs true)
  refine ⟨Inv.new hi hf _ _ ⟨w.heap.size, z.cells, e, rfl, heap_alloc_new w _, by rw [hx]; simp, fun i y hy => ?_⟩, K, .ptr _ _ _ (by simp [μ', upd_same]) (by simp [μ', upd_same]) (fun b hb => by simp only [μ', upd_same] at hb; cases hb; rfl)⟩
  subst hx
  rw [List.getElem?_map] at hy
  cases hv : z.cells.toList[i]? with
  | none => simp [hv] at hy
  | some v =>
    simp only [hv, Option.map_some] at hy
    cases hy
    exact ⟨v, by simpa using hv, .base _ _ (ofValue_rep v)⟩
end

end Go.V
/- The value logic, part 6: structs and slices that are built, stores, appends. Nothing is assumed. -/
set_option linter.unusedVariables false
set_option linter.unusedSimpArgs false
namespace Go.V
open Go.RowKit (Below)

section
variable {P : Program} {fr : Fr} {μ μ' : Nat → Option Pl} {k k' : Nat → TS} {w w' : World}

def PW (w : World) (C : Addr → Prop) (μ : Nat → Option Pl) (cs : Array Value) (xs : List PV) : Prop := cs.size = xs.length ∧ ∀ (i : Nat) (v : Value) (x : PV), cs[i]? = some v → xs[i]? = some x → RepV w C μ v x
def setR {α : Type} (xs : List α) (off : Nat) (ys : List α) : List α := xs.take off ++ ys ++ xs.drop (off + ys.length)
theorem setR_length {α : Type} (xs : List α) (off : Nat) (ys : List α) (h : off + ys.length ≤ xs.length) : (setR xs off ys).length = xs.length := by simp [setR]; omega
theorem setR_get {α : Type} (xs : List α) (off : Nat) (ys : List α) (h : off + ys.length ≤ xs.length) (i : Nat) : (setR xs off ys)[i]? = if off ≤ i ∧ i < off + ys.length then ys[i - off]? else xs[i]? := by
  unfold setR
  have h1 : (xs.take off).length = off := by simp; omega
  by_cases hi : i < off
  · rw [if_neg (by omega), List.append_assoc, List.getElem?_append_left (by omega), List.getElem?_take, if_pos hi]
  · by_cases hj : i < off + ys.length
    · rw [if_pos ⟨by omega, hj⟩, List.getElem?_append_left (by simp; omega), List.getElem?_append_right (by omega), h1]
    · rw [if_neg (by omega), List.getElem?_append_right (by simp; omega)]
      simp only [List.length_append, h1, List.getElem?_drop]
      congr 1; omega
theorem PW.set {C : Addr → Prop} {cs vs : Array Value} {xs ys : List PV} (h : PW w C μ cs xs) (hv : PW w C μ vs ys) (off : Nat) (hle : off + ys.length ≤ xs.length) :
    PW w C μ (vs.zipIdx.foldl (fun cs (x : Value × Nat) => cs.setIfInBounds (off + x.2) x.1) cs) (setR xs off ys) := by
  rw [← Array.foldl_toList, Array.toList_zipIdx]
  obtain ⟨h1, h2⟩ := Great.foldl_set off vs.toList 0 cs
  refine ⟨by rw [h1, setR_length _ _ _ hle]; exact h.1, fun i v x hvi hxi => ?_⟩
  rw [h2] at hvi
  rw [setR_get _ _ _ hle] at hxi
  have hvl : vs.toList.length = ys.length := by simpa using hv.1
  by_cases hc : off ≤ i ∧ i < off + ys.length
  · rw [if_pos hc] at hxi
    rw [if_pos ⟨by omega, by omega, by have := h.1; omega⟩] at hvi
    exact hv.2 _ v x (by simpa using hvi) (by simpa using hxi)
  · rw [if_neg hc] at hxi
    rw [if_neg (by omega)] at hvi
    exact h.2 i v x hvi hxi
def fillV (place : List (Nat × Nat)) : List PV → List (Nat × PV) → Option (List PV)
  | cells, [] => some cells
  | cells, (i, x) :: r => match place[i]? with
    | some (off, size) => if x.cells.length = size ∧ off + size ≤ cells.length then fillV place (setR cells off x.cells) r else none
    | none => none
theorem fill_rep (hi : Inv fr k μ w) {pl : List (Nat × Nat)} {f : Nat → Option (Nat × Nat)} (hf : ∀ i p, pl[i]? = some p → f i = some p) :
    ∀ (ps : List (Nat × PV)) (vs : List (Nat × Value)) (cs : Array Value) (xs ys : List PV), PW w (Cold fr k μ) μ cs xs → vs.map (·.1) = ps.map (·.1) →
      (∀ (i : Nat) (p : Nat × PV) (v : Nat × Value), ps[i]? = some p → vs[i]? = some v → RepV w (Cold fr k μ) μ v.2 p.2 ∧ p.2.oks k = true) → fillV pl xs ps = some ys →
      ∃ cs', Instr.fill f cs vs = some cs' ∧ PW w (Cold fr k μ) μ cs' ys
  | [], [], cs, xs, ys, h, _, _, hy => by simp [fillV] at hy; subst hy; exact ⟨cs, rfl, h⟩
  | [], _ :: _, _, _, _, _, hm, _, _ => by simp at hm
  | _ :: _, [], _, _, _, _, hm, _, _ => by simp at hm
  | (i, x) :: ps, (i', v) :: vs, cs, xs, ys, h, hm, hr, hy => by
    simp only [List.map_cons, List.cons.injEq] at hm
    obtain ⟨rfl, hm⟩ := hm
    obtain ⟨hrv, hok⟩ := hr 0 _ _ rfl rfl
    simp only [fillV] at hy
    split at hy
    · rename_i off size hp
      split at hy
      · rename_i hc
        obtain ⟨hcs, hcr, _⟩ := cells_rep hi hrv hok
        have hsz : v.cells.size = size := by have := hc.1; simp only at hcs; omega
        have hlen := h.1
        obtain ⟨cs', h1, h2⟩ := fill_rep hi hf ps vs _ _ ys (h.set ⟨hcs, hcr⟩ off (by have := hc.2; have h3 := hc.1; show off + x.cells.length ≤ _; omega)) hm (fun j p v hp hv => hr (j + 1) p v (by simpa using hp) (by simpa using hv)) hy
        refine ⟨cs', ?_, h2⟩
        simp only [Instr.fill, hf _ _ hp]
        rw [if_neg (by simp only [hsz, ne_eq, not_true_eq_false, decide_false, Bool.false_or, decide_eq_true_eq]; omega)]
        exact h1
      · cases hy
    · cases hy

def tyPlaces (P : Program) (t : TypeId) : Option (List (Nat × Nat)) :=
  match P.underlying t with
  | some (.struct fs) => fs.toList.mapM fun f => (P.info? f.type).map fun i => (f.offset, i.size)
  | some (.array n e) => (P.info? e).map fun i => (List.range n).map fun j => (j * i.size, i.size)
  | _ => none
def bld (P : Program) (t : TypeId) (ps : List (Nat × PV)) : Option PV :=
  match tyPlaces P t, tyZero P t with
  | some pl, some z => match fillV pl z ps with
    | some ys => some (.agg ys)
    | none => none
  | _, _ => none
theorem run_bld (hi : Inv fr k μ w) {t : TypeId} {ps : List (Nat × PV)} {vs : Array (Nat × Value)} {z : PV} (hm : vs.toList.map (·.1) = ps.map (·.1))
    (hr : ∀ (i : Nat) (p : Nat × PV) (v : Nat × Value), ps[i]? = some p → vs.toList[i]? = some v → RepV w (Cold fr k μ) μ v.2 p.2 ∧ p.2.oks k = true) (h : bld P t ps = some z) :
    ∃ u, (Instr.build t vs).run P w = .ok u w ∧ RepV w (Cold fr k μ) μ u z := by
  unfold bld at h
  split at h
  · rename_i pl zs hpl hz
    split at h
    · rename_i ys hy
      cases h
      obtain ⟨zv, _, hzs, it, hit, hiz⟩ := tyZero_run hz w
      have hpw : PW w (Cold fr k μ) μ zv.cells zs := by
        refine ⟨by rw [hzs]; simp, fun i v x hv hx => ?_⟩
        rw [hzs, List.getElem?_map] at hx
        have : zv.cells.toList[i]? = some v := by simpa using hv
        rw [this] at hx
        cases hx
        exact .base _ _ (ofValue_rep v)
      have hb : ∃ cs', P.built t vs.toList = some cs' ∧ PW w (Cold fr k μ) μ cs' ys := by
        unfold tyPlaces at hpl
        split at hpl
        · rename_i fs hu
          obtain ⟨cs', h1, h2⟩ := fill_rep hi (pl := pl) (f := fun i => pl.toArray[i]?) (fun i p h => by simpa using h) ps vs.toList _ _ _ hpw hm hr hy
          refine ⟨cs', ?_, h2⟩
          unfold Program.built
          simp only [hit, hu, hiz, hpl]
          exact h1
        · rename_i n e hu
          cases hie : P.info? e with
          | none => simp [hie] at hpl
          | some ie =>
            simp only [hie, Option.map_some] at hpl
            cases hpl
            obtain ⟨cs', h1, h2⟩ := fill_rep hi (f := fun i => some (i * ie.size, ie.size)) (fun i p h => by
              rw [List.getElem?_map] at h
              cases hri : (List.range n)[i]? with
              | none => simp [hri] at h
              | some j =>
                have : j = i := by
                  obtain ⟨hlt, he⟩ := List.getElem?_eq_some_iff.1 hri
                  simp at he; exact he.symm
                subst this
                simp [hri] at h; exact congrArg some h) ps vs.toList _ _ _ hpw hm hr hy
            refine ⟨cs', ?_, h2⟩
            unfold Program.built
            simp only [hit, hu, hiz, hie]
            exact h1
        · cases hpl
      obtain ⟨cs', h1, h2⟩ := hb
      exact ⟨.agg cs', run_build w t vs cs' h1, .agg _ _ h2.1 h2.2⟩
    · cases h
  · cases h

/-! ### A store -/
def stv (P : Program) (k : Nat → TS) (t : TypeId) (p x : PV) : Option (Nat × Tok) :=
  match tyAgg P t, p with
  | some (_, s), .ptr tn off => match k tn with
    | .live (.box xs true) => if x.cells.length = s ∧ off + s ≤ xs.length then some (tn, .box (setR xs off x.cells) true) else none
    | _ => none
  | some (_, s), .ep tn sz i off => match k tn with
    | .live (.row e sz' es true) => if sz = sz' then match es[i]? with
      | some c => if x.cells.length = s ∧ off + s ≤ c.length then some (tn, .row e sz (es.set i (setR c off x.cells)) true) else none
      | none => none
      else none
    | _ => none
  | _, _ => none
theorem run_storeAt {t : TypeId} {b : Bool} {s : Nat} (ht : tyAgg P t = some (b, s)) (bl off : Nat) (v : Value) (hs : v.cells.size = s) (h1 : ∀ u ∈ v.cells.toList, u.oneCell' = true) (cur : Array Value) (e : TypeId)
    (hg : w.heap[bl]? = some (.cells cur e (0, 0))) (hle : off + s ≤ cur.size) :
    (Instr.storeAt t (.pointer (some ⟨bl, off, none⟩)) v).run P w = .ok () (w.setRow bl (setR cur.toList off v.cells.toList).toArray) := by
  have ⟨_, h2⟩ := tyAgg_run ht w
  have hst := run_storeCells_at P bl off e v.cells.toList 0 cur w hg (by simp [hs]; omega) h1
  simp only [Nat.add_zero] at hst
  simp only [Instr.storeAt, Instr.sureAddr, storeVar, Sem.run_bind, Sem.run_pure, Result.andThen, h2, hs, ne_eq, not_true_eq_false, if_false, setR]
  exact hst
theorem setR_toArray_get (cur : Array Value) (off : Nat) (vs : List Value) (h : off + vs.length ≤ cur.size) (i : Nat) :
    (setR cur.toList off vs).toArray[i]? = if off ≤ i ∧ i < off + vs.length then vs[i - off]? else cur[i]? := by
  rw [List.getElem?_toArray, setR_get _ _ _ (by simpa using h)]
  simp
theorem setR_size (cur : Array Value) (off : Nat) (vs : List Value) (h : off + vs.length ≤ cur.size) : (setR cur.toList off vs).toArray.size = cur.size := by
  rw [List.size_toArray, setR_length _ _ _ (by simpa using h)]; simp
theorem run_stv (hi : Inv fr k μ w) {t : TypeId} {v u : Value} {p x : PV} {tn : Nat} {tk : Tok} (hp : RepV w (Cold fr k μ) μ v p) (hx : RepV w (Cold fr k μ) μ u x) (hok : x.oks k = true) (h : stv P k t p x = some (tn, tk)) :
    ∃ w', (Instr.storeAt t v u).run P w = .ok () w' ∧ Inv fr (upd k tn (.live tk)) μ w' ∧ Keeps w w' (Cold fr k μ) (Cold fr (upd k tn (.live tk)) μ) μ μ := by
  obtain ⟨hcs, hcr, hone⟩ := cells_rep hi hx hok
  unfold stv at h
  split at h
  · rename_i b s tn' off ht
    split at h
    · rename_i xs hk
      split at h
      · rename_i hc
        cases h
        cases hp with
        | base _ _ h => cases h
        | ptr _ _ _ hu hn hat =>
          obtain ⟨pl, hpl, bl, cs, e, rfl, hh, hs, hcell⟩ := hi.live tn _ hk
          obtain rfl := hat bl hpl
          have hlen : u.cells.toList.length = s := by simp [hcs, hc.1]
          have hle : off + u.cells.toList.length ≤ cs.size := by omega
          have hrun := run_storeAt (P := P) ht bl off u (by omega) hone cs e hh (by omega)
          have K := Keeps.write (tk' := .box (setR xs off x.cells) true) (arr := (setR cs.toList off u.cells.toList).toArray) hi hk hpl (by intro o ho; exact absurd ho.1 (by simp)) hh (setR_size _ _ _ hle)
          refine ⟨_, hrun, Inv.write hi hk hpl hh K ⟨bl, _, e, rfl, setRow_heap w bl cs _ e _ hh, ?_, fun i y hy => ?_⟩, K⟩
          · rw [setR_length _ _ _ (by omega), setR_size _ _ _ hle]; exact hs
          · rw [setR_get _ _ _ (by omega)] at hy
            rw [setR_toArray_get _ _ _ hle]
            by_cases hin : off ≤ i ∧ i < off + x.cells.length
            · rw [if_pos hin] at hy
              rw [if_pos (by omega)]
              have hj : i - off < u.cells.size := by omega
              refine ⟨u.cells[i - off], by simp [hj], (hcr (i - off) _ _ (Array.getElem?_eq_getElem hj) hy).mono K⟩
            · rw [if_neg hin] at hy
              rw [if_neg (by omega)]
              obtain ⟨v', hv', hr'⟩ := hcell i y hy
              exact ⟨v', hv', hr'.mono K⟩
      · cases h
    · cases h
  · rename_i b s tn' sz i off ht
    split at h
    · rename_i e sz' es hk
      split at h
      · rename_i hsz
        subst hsz
        split at h
        · rename_i c hc0
          split at h
          · rename_i hc
            cases h
            cases hp with
            | base _ _ h => cases h
            | ep _ _ _ _ _ hu hn hat =>
              obtain ⟨pl, hpl, ⟨hpos, hall⟩, hrow⟩ := hi.live tn _ hk
              rcases hrow with ⟨rfl, _⟩ | ⟨bl, cs, c', rfl, hh, hs, hle', hm, hcell⟩
              · exact absurd hpl hn
              · obtain rfl := hat bl hpl
                have hlen : u.cells.toList.length = s := by simp [hcs, hc.1]
                obtain ⟨hil, _⟩ := List.getElem?_eq_some_iff.1 hc0
                have hcl : c.length = sz := hall c (List.mem_of_getElem? hc0)
                have hmul : (i + 1) * sz ≤ c' * sz := Nat.mul_le_mul_right _ (by omega)
                rw [Nat.add_mul, Nat.one_mul] at hmul
                have hle : i * sz + off + u.cells.toList.length ≤ cs.size := by omega
                have hrun := run_storeAt (P := P) ht bl (i * sz + off) u (by omega) hone cs e hh (by omega)
                have K := Keeps.write (tk' := .row e sz (es.set i (setR c off x.cells)) true) (arr := (setR cs.toList (i * sz + off) u.cells.toList).toArray) hi hk hpl (by intro o ho; exact absurd ho.1 (by simp)) hh (setR_size _ _ _ hle)
                refine ⟨_, hrun, Inv.write hi hk hpl hh K ⟨⟨hpos, fun y hy => ?_⟩, .inr ⟨bl, _, c', rfl, setRow_heap w bl cs _ e _ hh, ?_, by simpa using hle', hm, fun i2 j y z hy hz => ?_⟩⟩, K⟩
                · rcases List.mem_or_eq_of_mem_set hy with h | rfl
                  · exact hall y h
                  · rw [setR_length _ _ _ (by omega)]; exact hcl
                · rw [setR_size _ _ _ hle]; exact hs
                · rw [setR_toArray_get _ _ _ hle]
                  rw [List.getElem?_set] at hy
                  by_cases hii : i = i2
                  · subst hii
                    rw [if_pos rfl, if_pos hil] at hy
                    cases hy
                    rw [setR_get _ _ _ (by omega)] at hz
                    by_cases hin : off ≤ j ∧ j < off + x.cells.length
                    · rw [if_pos hin] at hz
                      rw [if_pos (by omega)]
                      have hj : j - off < u.cells.size := by omega
                      have he : i * sz + j - (i * sz + off) = j - off := by omega
                      rw [he]
                      exact ⟨u.cells[j - off], by simp [hj], (hcr (j - off) _ _ (Array.getElem?_eq_getElem hj) hz).mono K⟩
                    · rw [if_neg hin] at hz
                      rw [if_neg (by omega)]
                      obtain ⟨v', hv', hr'⟩ := hcell i j c z hc0 hz
                      exact ⟨v', hv', hr'.mono K⟩
                  · rw [if_neg hii] at hy
                    obtain ⟨v', hv', hr'⟩ := hcell i2 j y z hy hz
                    have hyl : y.length = sz := hall y (List.mem_of_getElem? hy)
                    obtain ⟨hjl, _⟩ := List.getElem?_eq_some_iff.1 hz
                    rw [if_neg ?_]
                    · exact ⟨v', hv', hr'.mono K⟩
                    · intro hin
                      rcases Nat.lt_or_gt_of_ne hii with hlt | hgt
                      · have : (i + 1) * sz ≤ i2 * sz := Nat.mul_le_mul_right _ hlt
                        rw [Nat.add_mul, Nat.one_mul] at this; omega
                      · have : (i2 + 1) * sz ≤ i * sz := Nat.mul_le_mul_right _ hgt
                        rw [Nat.add_mul, Nat.one_mul] at this; omega
          · cases h
        · cases h
      · cases h
    · cases h
  · cases h
end

end Go.V
/- The value logic, part 7: rows that are made, grown and copied. Nothing is assumed. -/
set_option linter.unusedVariables false
set_option linter.unusedSimpArgs false
namespace Go.V
open Go.RowKit (Below)

section
variable {P : Program} {fr : Fr} {μ μ' : Nat → Option Pl} {k k' : Nat → TS} {w w' : World}

theorem Keeps.trans {w1 w2 w3 : World} {C1 C2 C3 : Addr → Prop} {μ1 μ2 μ3 : Nat → Option Pl} (h : Keeps w1 w2 C1 C2 μ1 μ2) (g : Keeps w2 w3 C2 C3 μ2 μ3) : Keeps w1 w3 C1 C3 μ1 μ3 where
  cell a v hc hv := let ⟨a1, a2⟩ := h.cell a v hc hv; g.cell a v a1 a2
  used t ht := g.used t (h.used t ht)
  name t p hu hp hd := h.name t p hu (g.name t p (h.used t hu) hp hd) hd
  size t b cs e fz h1 h3 hb := by
    have h2 : μ2 t = some (.at b) := g.name t _ (h.used t (by rw [h1]; simp)) h3 (by simp)
    obtain ⟨cs', e', fz', hb', hs'⟩ := g.size t b cs e fz h2 h3 hb
    obtain ⟨cs2, e2, fz2, hb2, hs2⟩ := h.size t b cs' e' fz' h1 h2 hb'
    exact ⟨cs2, e2, fz2, hb2, hs2.trans hs'⟩

/-- A name's content under another name. -/
theorem Keeps.rename (h : Inv fr k μ w) {t d : Nat} {tk : Tok} (hk : k t = .live tk) (hd : k d = .fresh) :
    Keeps w w (Cold fr k μ) (Cold fr (upd (upd k t .dead) d (.live tk)) (upd (upd μ t (some .dead)) d (μ t))) μ (upd (upd μ t (some .dead)) d (μ t)) where
  cell a v hc hv := by
    refine ⟨⟨hc.1, fun t' tk' b hk' hm hb => ?_⟩, hv⟩
    by_cases e : t' = d
    · subst e; rw [upd_same] at hk' hm; cases hk'; exact hc.2 t tk b hk hm hb
    · rw [upd_ne _ _ _ _ e] at hk' hm
      by_cases e2 : t' = t
      · subst e2; rw [upd_same] at hk'; cases hk'
      · rw [upd_ne _ _ _ _ e2] at hk' hm; exact hc.2 t' tk' b hk' hm hb
  used t' hu := by
    by_cases e : t' = d
    · subst e; exact absurd ((h.used t').2 hd) hu
    · rw [upd_ne _ _ _ _ e]
      by_cases e2 : t' = t
      · subst e2; rw [upd_same]; simp
      · rw [upd_ne _ _ _ _ e2]; exact hu
  name t' p hu hp hnd := by
    by_cases e : t' = d
    · subst e; exact absurd ((h.used t').2 hd) hu
    · rw [upd_ne _ _ _ _ e] at hp
      by_cases e2 : t' = t
      · subst e2; rw [upd_same] at hp; cases hp; exact absurd rfl hnd
      · rwa [upd_ne _ _ _ _ e2] at hp
  size t' b cs e fz h1 _ hb := ⟨cs, e, fz, hb, rfl⟩
theorem Inv.rename (h : Inv fr k μ w) {t d : Nat} {tk : Tok} (hk : k t = .live tk) (hd : k d = .fresh) : Inv fr (upd (upd k t .dead) d (.live tk)) (upd (upd μ t (some .dead)) d (μ t)) w := by
  have K := Keeps.rename h hk hd
  have htd : t ≠ d := by rintro rfl; rw [hk] at hd; cases hd
  have hl : ∀ t' tk', upd (upd k t .dead) d (.live tk) t' = .live tk' → (t' = d ∧ tk' = tk) ∨ (t' ≠ d ∧ t' ≠ t ∧ k t' = .live tk') := by
    intro t' tk' hk'
    by_cases e : t' = d
    · subst e; rw [upd_same] at hk'; cases hk'; exact .inl ⟨rfl, rfl⟩
    · rw [upd_ne _ _ _ _ e] at hk'
      by_cases e2 : t' = t
      · subst e2; rw [upd_same] at hk'; cases hk'
      · rw [upd_ne _ _ _ _ e2] at hk'; exact .inr ⟨e, e2, hk'⟩
  have hm : ∀ t', t' ≠ d → t' ≠ t → upd (upd μ t (some .dead)) d (μ t) t' = μ t' := fun t' e1 e2 => by rw [upd_ne _ _ _ _ e1, upd_ne _ _ _ _ e2]
  refine ⟨h.os, h.tape, h.output, h.size, h.old, fun t' => ?_, fun t' tk' hk' => ?_, fun t' tk' b hk' hb => ?_, fun t1 t2 tk1 tk2 b h1 h2 m1 m2 => ?_, fun t' hk' => ?_⟩
  · by_cases e : t' = d
    · subst e; rw [upd_same, upd_same]; have := h.used t; rw [hk] at this; simp at this; simp [this]
    · rw [upd_ne _ _ _ _ e, upd_ne _ _ _ _ e]
      by_cases e2 : t' = t
      · subst e2; rw [upd_same, upd_same]; simp
      · rw [upd_ne _ _ _ _ e2, upd_ne _ _ _ _ e2]; exact h.used t'
  · rcases hl t' tk' hk' with ⟨rfl, rfl⟩ | ⟨e1, e2, h3⟩
    · obtain ⟨p, hp, hr⟩ := h.live t _ hk
      exact ⟨p, by rw [upd_same]; exact hp, hr.mono K (fun _ _ => rfl)⟩
    · obtain ⟨p, hp, hr⟩ := h.live t' _ h3
      exact ⟨p, by rw [hm t' e1 e2]; exact hp, hr.mono K (fun _ _ => rfl)⟩
  · rcases hl t' tk' hk' with ⟨rfl, rfl⟩ | ⟨e1, e2, h3⟩
    · rw [upd_same] at hb; exact h.place t _ b hk hb
    · rw [hm t' e1 e2] at hb; exact h.place t' _ b h3 hb
  · rcases hl t1 tk1 h1 with ⟨rfl, rfl⟩ | ⟨e1, e1', h1'⟩ <;> rcases hl t2 tk2 h2 with ⟨rfl, rfl⟩ | ⟨e2, e2', h2'⟩
    · rfl
    · rw [upd_same] at m1; rw [hm t2 e2 e2'] at m2; exact absurd (h.inj t t2 _ _ b hk h2' m1 m2).symm e2'
    · rw [upd_same] at m2; rw [hm t1 e1 e1'] at m1; exact absurd (h.inj t t1 _ _ b hk h1' m2 m1).symm e1'
    · rw [hm t1 e1 e1'] at m1; rw [hm t2 e2 e2'] at m2; exact h.inj t1 t2 _ _ b h1' h2' m1 m2
  · by_cases e : t' = d
    · subst e; rw [upd_same] at hk'; cases hk'
    · rw [upd_ne _ _ _ _ e] at hk' ⊢
      by_cases e2 : t' = t
      · subst e2; rw [upd_same]
      · rw [upd_ne _ _ _ _ e2] at hk' ⊢; exact h.dead t' hk'

/-- The nil slice under a name. -/
theorem Keeps.virt (h : Inv fr k μ w) {d : Nat} {tk : Tok} (hd : k d = .fresh) : Keeps w w (Cold fr k μ) (Cold fr (upd k d (.live tk)) (upd μ d (some .nil))) μ (upd μ d (some .nil)) where
  cell a v hc hv := by
    refine ⟨⟨hc.1, fun t' tk' b hk' hm hb => ?_⟩, hv⟩
    by_cases e : t' = d
    · subst e; rw [upd_same] at hm; cases hm
    · rw [upd_ne _ _ _ _ e] at hk' hm; exact hc.2 t' tk' b hk' hm hb
  used t' hu := by
    by_cases e : t' = d
    · subst e; rw [upd_same]; simp
    · rw [upd_ne _ _ _ _ e]; exact hu
  name t' p hu hp hnd := by
    by_cases e : t' = d
    · subst e; exact absurd ((h.used t').2 hd) hu
    · rwa [upd_ne _ _ _ _ e] at hp
  size t' b cs e fz h1 _ hb := ⟨cs, e, fz, hb, rfl⟩
theorem Inv.virt (h : Inv fr k μ w) {d : Nat} (e : TypeId) {sz : Nat} (hpos : 0 < sz) (wr : Bool) (hd : k d = .fresh) : Inv fr (upd k d (.live (.row e sz [] wr))) (upd μ d (some .nil)) w := by
  have K := Keeps.virt (tk := .row e sz [] wr) h hd
  refine ⟨h.os, h.tape, h.output, h.size, h.old, fun t' => ?_, fun t' tk' hk' => ?_, fun t' tk' b hk' hb => ?_, fun t1 t2 tk1 tk2 b h1 h2 m1 m2 => ?_, fun t' hk' => ?_⟩
  · by_cases e : t' = d
    · subst e; rw [upd_same, upd_same]; simp
    · rw [upd_ne _ _ _ _ e, upd_ne _ _ _ _ e]; exact h.used t'
  · by_cases e : t' = d
    · subst e; rw [upd_same] at hk'; cases hk'; exact ⟨.nil, upd_same .., ⟨hpos, by simp⟩, .inl ⟨rfl, rfl⟩⟩
    · rw [upd_ne _ _ _ _ e] at hk'
      obtain ⟨p, hp, hr⟩ := h.live t' _ hk'
      exact ⟨p, by rw [upd_ne _ _ _ _ e]; exact hp, hr.mono K (fun _ _ => rfl)⟩
  · by_cases e : t' = d
    · subst e; rw [upd_same] at hb; cases hb
    · rw [upd_ne _ _ _ _ e] at hk' hb; exact h.place t' _ b hk' hb
  · by_cases e1 : t1 = d
    · subst e1; rw [upd_same] at m1; cases m1
    · by_cases e2 : t2 = d
      · subst e2; rw [upd_same] at m2; cases m2
      · rw [upd_ne _ _ _ _ e1] at h1 m1; rw [upd_ne _ _ _ _ e2] at h2 m2; exact h.inj t1 t2 _ _ b h1 h2 m1 m2
  · by_cases e : t' = d
    · subst e; rw [upd_same] at hk'; cases hk'
    · rw [upd_ne _ _ _ _ e] at hk' ⊢; exact h.dead t' hk'

/-- A new row under a new name. -/
theorem new_row (hi : Inv fr k μ w) {cs : Array Value} {e : TypeId} {sz c : Nat} {es : List (List PV)} (wr : Bool) (hpos : 0 < sz) (hall : ∀ x ∈ es, x.length = sz) (hs : cs.size = c * sz) (hle : es.length ≤ c) (hm : c ≤ maxLen)
    (hc : ∀ (i j : Nat) (x : List PV) (y : PV), es[i]? = some x → x[j]? = some y → ∃ v, cs[i * sz + j]? = some v ∧ RepV w (Cold fr k μ) μ v y) {d : Nat} (hd : k d = .fresh) :
    let k' := upd k d (.live (.row e sz es wr)); let μ' := upd μ d (some (.at w.heap.size)); let w' := w.alloc (.cells cs e)
    Inv fr k' μ' w' ∧ Keeps w w' (Cold fr k μ) (Cold fr k' μ') μ μ' ∧ RepV w' (Cold fr k' μ') μ' (.slice (some ⟨w.heap.size, 0, none⟩) es.length c) (.ref d sz 0 es.length) := by
  intro k' μ' w'
  have K := Keeps.new hi hd (.cells cs e) (.row e sz es wr)
  refine ⟨Inv.new hi hd _ _ ⟨⟨hpos, hall⟩, .inr ⟨w.heap.size, cs, c, rfl, heap_alloc_new w _, hs, hle, hm, fun i j x y hx hy => let ⟨v, hv, hr⟩ := hc i j x y hx hy; ⟨v, hv, hr.mono K⟩⟩⟩, K,
    .ref _ _ _ _ _ (by simp [μ', upd_same]) (by simp [μ', upd_same]) (fun b hb => ?_)⟩
  simp only [μ', upd_same] at hb
  cases hb
  refine ⟨_, c, rfl, hle, .inr (by simp), fun cs' e' fz hbk => ?_⟩
  have : w'.heap[w.heap.size]? = some (.cells cs e) := heap_alloc_new w _
  rw [this] at hbk
  cases hbk
  rw [Nat.zero_add]; exact hs.symm

/-! ### A slice literal -/
def bsl (P : Program) (k : Nat → TS) (t : TypeId) (len : Nat) (ps : List (Nat × PV)) : Option (TypeId × Nat × List (List PV)) :=
  match tyElem P t with
  | some (e, sz) => if 0 < sz ∧ len * sz ≤ 16777216 ∧ ps.map (·.1) = List.range len ∧ (ps.all fun p => p.2.cells.length == sz && p.2.oks k) = true ∧ (tyZero P e).isSome = true then some (e, sz, ps.map (·.2.cells)) else none
  | none => none
theorem zip_of_range {α : Type} : ∀ (vs : List (Nat × α)) (s : Nat), vs.map (·.1) = List.range' s vs.length → vs = (((vs.map (·.2)).zipIdx s).map fun x => (x.2, x.1))
  | [], _, _ => rfl
  | (i, v) :: vs, s, h => by
    simp only [List.map_cons, List.length_cons, List.range'_succ, List.cons.injEq] at h
    obtain ⟨rfl, h⟩ := h
    have := zip_of_range vs (i + 1) h
    simp only [List.map_cons, List.zipIdx_cons]
    exact congrArg _ this
theorem run_bsl (hi : Inv fr k μ w) {t : TypeId} {len : Nat} {ps : List (Nat × PV)} {vs : Array (Nat × Value)} {e : TypeId} {sz : Nat} {es : List (List PV)} (hm : vs.toList.map (·.1) = ps.map (·.1))
    (hr : ∀ (i : Nat) (p : Nat × PV) (v : Nat × Value), ps[i]? = some p → vs.toList[i]? = some v → RepV w (Cold fr k μ) μ v.2 p.2) (h : bsl P k t len ps = some (e, sz, es)) {d : Nat} (hd : k d = .fresh) :
    ∃ u w' μ', (Instr.buildSlice t len vs).run P w = .ok u w' ∧ Inv fr (upd k d (.live (.row e sz es true))) μ' w' ∧ Keeps w w' (Cold fr k μ) (Cold fr (upd k d (.live (.row e sz es true))) μ') μ μ' ∧
      RepV w' (Cold fr (upd k d (.live (.row e sz es true))) μ') μ' u (.ref d sz 0 es.length) := by
  unfold bsl at h
  split at h
  · rename_i e' sz' ht
    split at h
    · rename_i hc
      cases h
      obtain ⟨hpos, hsmall, hrange, hall, hz0⟩ := hc
      obtain ⟨hu, inf, hinf, rfl⟩ := tyElem_run ht
      obtain ⟨zs, hzs⟩ := Option.isSome_iff_exists.1 hz0
      obtain ⟨z, _, _, it, hit, hiz⟩ := tyZero_run hzs w
      rw [hinf] at hit; cases hit
      have hlen : ps.length = len := by have := congrArg List.length hrange; simpa using this
      have hvlen : vs.toList.length = len := by have := congrArg List.length hm; simp only [List.length_map] at this; omega
      have hcell : ∀ (i : Nat) (p : Nat × PV) (v : Nat × Value), ps[i]? = some p → vs.toList[i]? = some v → v.2.cells.size = p.2.cells.length ∧ p.2.cells.length = inf.size ∧
          (∀ (j : Nat) (u : Value) (y : PV), v.2.cells[j]? = some u → p.2.cells[j]? = some y → RepV w (Cold fr k μ) μ u y) := by
        intro i p v hp hv
        have h1 := List.all_eq_true.1 hall p (List.mem_of_getElem? hp)
        simp only [Bool.and_eq_true, beq_iff_eq] at h1
        obtain ⟨a1, a2, _⟩ := cells_rep hi (hr i p v hp hv) h1.2
        exact ⟨a1, h1.1, a2⟩
      have hvz : vs.toList = (((vs.toList.map (·.2)).zipIdx 0).map fun x => (x.2, x.1)) := zip_of_range _ 0 (by rw [hm, hrange, hvlen, List.range_eq_range'])
      have hvs : ∀ v ∈ vs.toList.map (·.2), v.cells.size = inf.size := by
        intro v hv
        obtain ⟨i, hi', he⟩ := List.mem_iff_getElem.1 hv
        simp only [List.length_map] at hi'
        have hv1 : vs.toList[i]? = some vs.toList[i] := List.getElem?_eq_getElem hi'
        have hp1 : ps[i]? = some ps[i] := List.getElem?_eq_getElem (by omega)
        obtain ⟨a1, a2, _⟩ := hcell i _ _ hp1 hv1
        simp only [List.getElem_map] at he
        rw [← he]; omega
      have hrun : (Instr.buildSlice t len vs).run P w = .ok (.slice (some ⟨w.heap.size, 0, none⟩) len len) (w.alloc (.cells ((vs.toList.map (·.2)).flatMap fun v => v.cells.toList).toArray e)) := by
        by_cases hl0 : len * inf.size = 0
        · have hlen0 : len = 0 := by rcases Nat.mul_eq_zero.1 hl0 with h | h; exact h; omega
          subst hlen0
          have hv0 : vs.toList = [] := List.eq_nil_of_length_eq_zero hvlen
          simp only [Instr.buildSlice, Sem.run_bind, run_underlying hu, Result.andThen, sizeOf, typeInfo]
          have ha : Array.range 0 = #[] := rfl
          simp [hinf, hv0, Instr.fill, newRow, ha]
        · refine run_buildSlice w t e len vs _ inf z hu hinf hiz (by omega) hl0 ?_
          rw [hvz]
          have := Great.fill_whole hpos (vs.toList.map (·.2)) ((Array.range (len * inf.size)).map (z.cells[· % z.cells.size]!)) hvs (by simp [hvlen])
          rw [this]
          simp [List.map_map, Function.comp_def]
      have hes : (ps.map (·.2.cells)).length = len := by simp [hlen]
      have hnew := new_row hi (cs := ((vs.toList.map (·.2)).flatMap fun v => v.cells.toList).toArray) (e := e) (sz := inf.size) (c := len) (es := ps.map (·.2.cells)) true hpos (by
          intro x hx
          obtain ⟨p, hp, rfl⟩ := List.mem_map.1 hx
          have h1 := List.all_eq_true.1 hall p hp
          simp only [Bool.and_eq_true, beq_iff_eq] at h1
          exact h1.1) (by
          rw [List.size_toArray, List.length_flatMap]
          have : (vs.toList.map (·.2)).map (fun v => v.cells.toList.length) = List.replicate len inf.size := by
            apply List.ext_getElem
            · simp [hvlen]
            · intro i h1 h2
              simp only [List.getElem_map, List.getElem_replicate, Array.length_toList]
              exact hvs _ (by rw [List.mem_map]; exact ⟨_, List.getElem_mem _, rfl⟩)
          rw [this]; simp) (by omega) (by
          have : len ≤ len * inf.size := Nat.le_mul_of_pos_right _ hpos
          simp only [maxLen]; omega) (fun i j x y hx hy => by
          rw [List.getElem?_map] at hx
          cases hp : ps[i]? with
          | none => simp [hp] at hx
          | some p =>
            simp only [hp, Option.map_some] at hx
            cases hx
            obtain ⟨hil, _⟩ := List.getElem?_eq_some_iff.1 hp
            have hv1 : vs.toList[i]? = some (vs.toList[i]'(by omega)) := List.getElem?_eq_getElem (by omega)
            obtain ⟨a1, a2, a3⟩ := hcell i _ _ hp hv1
            obtain ⟨hjl, _⟩ := List.getElem?_eq_some_iff.1 hy
            have hjv : j < ((vs.toList[i]'(by omega)).2.cells).size := by omega
            refine ⟨((vs.toList[i]'(by omega)).2.cells)[j], ?_, a3 j _ y (Array.getElem?_eq_getElem hjv) hy⟩
            rw [List.getElem?_toArray, Great.flat_get hpos _ hvs]
            have hd : (i * inf.size + j) / inf.size = i := by rw [Nat.mul_comm, Nat.mul_add_div hpos, Nat.div_eq_of_lt (by omega)]; rfl
            have hmod : (i * inf.size + j) % inf.size = j := by rw [Nat.mul_comm, Nat.mul_add_mod, Nat.mod_eq_of_lt (by omega)]
            rw [hd, hmod, List.getElem?_map, hv1]
            simp [hjv]) hd
      rw [hes] at hnew
      refine ⟨_, _, _, hrun, hnew.1, hnew.2.1, ?_⟩
      rw [hes]; exact hnew.2.2
    · cases h
  · cases h
end

end Go.V
/- The value logic, part 8: append and make. Nothing is assumed. -/
set_option linter.unusedVariables false
set_option linter.unusedSimpArgs false
namespace Go.V
open Go.RowKit (Below)

section
variable {P : Program} {fr : Fr} {μ μ' : Nat → Option Pl} {k k' : Nat → TS} {w w' : World}

/-- The elements that a slice reads as. -/
def srcs (k : Nat → TS) : PV → Option (List (List PV))
  | .sl es => some es
  | .nils => some []
  | .emp _ => some []
  | .ref t sz lo n => match k t with
    | .live (.row _ sz' es _) => if sz = sz' ∧ lo + n ≤ es.length then some ((es.drop lo).take n) else none
    | _ => none
  | _ => none
/-- Where a slice lies: its elements' cells, one behind the other. -/
theorem srcs_rep (hi : Inv fr k μ w) {v : Value} {x : PV} {es : List (List PV)} {sz : Nat} (hsz : ∀ e ∈ es, e.length = sz) (h : RepV w (Cold fr k μ) μ v x) (hx : srcs k x = some es) :
    ∃ A c, v = .slice A es.length c ∧ (es ≠ [] → ∃ b o, A = some ⟨b, o, none⟩ ∧ ∀ (i j : Nat) (e : List PV) (y : PV), es[i]? = some e → e[j]? = some y → ∃ u, w.cell? ⟨b, o + i * sz + j, none⟩ = some u ∧ RepV w (Cold fr k μ) μ u y) := by
  unfold srcs at hx
  split at hx
  · cases hx
    cases h.sl_inv with
    | sl0 A c => exact ⟨A, c, rfl, fun h => absurd rfl h⟩
    | sl b o c n sz0 es us hn hpos hcap hlen hcell hC hrep =>
      subst hn
      refine ⟨_, c, rfl, fun hne => ⟨b, o, rfl, fun i j e y he hy => ?_⟩⟩
      have hm : e ∈ es := List.mem_of_getElem? he
      have : sz0 = sz := by rw [← hlen e hm, hsz e hm]
      subst this
      obtain ⟨hil, _⟩ := List.getElem?_eq_some_iff.1 he
      obtain ⟨hjl, _⟩ := List.getElem?_eq_some_iff.1 hy
      rw [hlen e hm] at hjl
      exact ⟨_, hcell i j hil hjl, .base _ _ (hrep i j e y he hy)⟩
  · cases hx
    obtain rfl := h.nils_inv
    exact ⟨_, _, rfl, fun h => absurd rfl h⟩
  · cases hx
    cases h with | base _ _ h => cases h with | emp A c => exact ⟨_, _, rfl, fun h => absurd rfl h⟩
  · rename_i t sz0 lo n
    split at hx
    · rename_i e0 sz' es0 wr hk
      split at hx
      · rename_i hc
        obtain ⟨rfl, hle⟩ := hc
        cases hx
        have hlen : ((es0.drop lo).take n).length = n := by simp; omega
        cases h with
        | base _ _ h => cases h
        | ref _ _ _ _ _ hu hn hat =>
          by_cases hnn : μ t = some .nil
          · obtain ⟨rfl, rfl, rfl⟩ := hn hnn
            exact ⟨_, _, rfl, fun h => absurd (by simp) h⟩
          · obtain ⟨b, hb⟩ := live_at hi (by simp [isLive, hk]) hnn
            obtain ⟨A, c, rfl, hnc, hA, hcap⟩ := hat b hb
            refine ⟨A, c, by rw [hlen], fun hne => ?_⟩
            have hn0 : n ≠ 0 := by rintro rfl; simp at hne
            obtain ⟨p, hp, ⟨hpos, hall⟩, hrow⟩ := hi.live t _ hk
            rw [hb] at hp; cases hp
            rcases hrow with ⟨h, _⟩ | ⟨b', cs, c', hb', hh, hs, hle', hm, hcell⟩
            · cases h
            · cases hb'
              refine ⟨b, lo * sz0, hA.resolve_left (by omega), fun i j e y he hy => ?_⟩
              have hszz : sz0 = sz := by
                have hm' := List.mem_of_getElem? he
                rw [← hsz e hm']
                exact (hall e (List.mem_of_mem_drop (List.mem_of_mem_take hm'))).symm
              subst hszz
              obtain ⟨hil, _⟩ := List.getElem?_eq_some_iff.1 he
              rw [List.getElem?_take, if_pos (by omega), List.getElem?_drop] at he
              obtain ⟨u, hu, hr⟩ := hcell (lo + i) j e y he hy
              refine ⟨u, ?_, hr⟩
              rw [cell_of_row w b _ cs _ _ hh, ← hu]
              congr 1
              rw [Nat.add_mul]
      · cases hx
    · cases hx
  · cases hx
theorem flat_get' {α : Type} {s : Nat} (hs : 0 < s) : ∀ (es : List (List α)), (∀ e ∈ es, e.length = s) → ∀ k, es.flatten[k]? = (es[k / s]?).bind (fun e => e[k % s]?)
  | [], _, k => by simp
  | e :: es, h, k => by
    have he : e.length = s := h e List.mem_cons_self
    rw [List.flatten_cons]
    by_cases hk : k < s
    · rw [List.getElem?_append_left (by omega), Nat.div_eq_of_lt hk, Nat.mod_eq_of_lt hk]; rfl
    · rw [List.getElem?_append_right (by omega), he, flat_get' hs es (fun e' he' => h e' (List.mem_cons_of_mem _ he')) (k - s)]
      have h1 : k / s = (k - s) / s + 1 := by rw [Nat.div_eq_sub_div hs (by omega)]
      have h2 : k % s = (k - s) % s := by rw [Nat.mod_eq_sub_mod (by omega)]
      rw [h1, h2, List.getElem?_cons_succ]
theorem flatten_len {α : Type} {s : Nat} (es : List (List α)) (h : ∀ e ∈ es, e.length = s) : es.flatten.length = es.length * s := by
  induction es with
  | nil => simp
  | cons e es ih => rw [List.flatten_cons, List.length_append, h e List.mem_cons_self, ih (fun e' he' => h e' (List.mem_cons_of_mem _ he')), List.length_cons, Nat.add_mul]; omega
/-- The cells of elements as a list of values. -/
theorem srcs_vals (hi : Inv fr k μ w) {b o sz : Nat} (hpos : 0 < sz) {es : List (List PV)} (hsz : ∀ e ∈ es, e.length = sz) (hone : ∀ e ∈ es, ∀ y ∈ e, PV.one k y = true)
    (hc : ∀ (i j : Nat) (e : List PV) (y : PV), es[i]? = some e → e[j]? = some y → ∃ u, w.cell? ⟨b, o + i * sz + j, none⟩ = some u ∧ RepV w (Cold fr k μ) μ u y) :
    ∃ vs : List Value, vs.length = es.length * sz ∧ (∀ j v, vs[j]? = some v → w.cell? ((⟨b, o, none⟩ : Addr).add j) = some v) ∧ (∀ v ∈ vs, v.oneCell' = true) ∧
      ∀ (i j : Nat) (e : List PV) (y : PV), es[i]? = some e → e[j]? = some y → ∃ u, vs[i * sz + j]? = some u ∧ RepV w (Cold fr k μ) μ u y := by
  have hex : ∀ n, ∃ u, n < es.length * sz → w.cell? ⟨b, o + n, none⟩ = some u ∧ u.oneCell' = true ∧ ∀ y, (es[n / sz]?).bind (fun e => e[n % sz]?) = some y → RepV w (Cold fr k μ) μ u y := by
    intro n
    by_cases hn : n < es.length * sz
    · have hi1 : n / sz < es.length := by rw [Nat.div_lt_iff_lt_mul hpos]; exact hn
      have he : es[n / sz]? = some es[n / sz] := List.getElem?_eq_getElem hi1
      have hel : es[n / sz].length = sz := hsz _ (List.getElem_mem _)
      have hj1 : n % sz < es[n / sz].length := by rw [hel]; exact Nat.mod_lt _ hpos
      have hy : es[n / sz][n % sz]? = some es[n / sz][n % sz] := List.getElem?_eq_getElem hj1
      obtain ⟨u, hu, hr⟩ := hc _ _ _ _ he hy
      refine ⟨u, fun _ => ⟨?_, (one_val hi hr (hone _ (List.getElem_mem _) _ (List.getElem_mem _))).1, fun y hyy => ?_⟩⟩
      · rw [← hu]
        have := Nat.div_add_mod n sz
        congr 2
        rw [Nat.mul_comm] at this; omega
      · rw [he] at hyy
        simp only [Option.bind_some] at hyy
        rw [hy] at hyy; cases hyy; exact hr
    · exact ⟨undef, fun h => absurd h hn⟩
  let f : Nat → Value := fun n => Classical.choose (hex n)
  have hf : ∀ n, n < es.length * sz → w.cell? ⟨b, o + n, none⟩ = some (f n) ∧ (f n).oneCell' = true ∧ ∀ y, (es[n / sz]?).bind (fun e => e[n % sz]?) = some y → RepV w (Cold fr k μ) μ (f n) y := fun n hn => Classical.choose_spec (hex n) hn
  have hget : ∀ j v, ((List.range (es.length * sz)).map f)[j]? = some v → j < es.length * sz ∧ v = f j := by
    intro j v hv
    obtain ⟨hj, he⟩ := List.getElem?_eq_some_iff.1 hv
    simp only [List.length_map, List.length_range] at hj
    simp at he
    exact ⟨hj, he.symm⟩
  refine ⟨(List.range (es.length * sz)).map f, by simp, fun j v hv => ?_, fun v hv => ?_, fun i j e y he hy => ?_⟩
  · obtain ⟨hj, rfl⟩ := hget j v hv
    rw [Addr.add_lit]
    exact (hf j hj).1
  · obtain ⟨n, hn, rfl⟩ := List.mem_map.1 hv
    exact (hf n (by simpa using hn)).2.1
  · obtain ⟨hil, _⟩ := List.getElem?_eq_some_iff.1 he
    obtain ⟨hjl, _⟩ := List.getElem?_eq_some_iff.1 hy
    rw [hsz e (List.mem_of_getElem? he)] at hjl
    have hmul : (i + 1) * sz ≤ es.length * sz := Nat.mul_le_mul_right _ hil
    rw [Nat.add_mul, Nat.one_mul] at hmul
    have hlt : i * sz + j < es.length * sz := by omega
    refine ⟨f (i * sz + j), by simp [hlt], (hf _ hlt).2.2 y ?_⟩
    have hd : (i * sz + j) / sz = i := by rw [Nat.mul_comm, Nat.mul_add_div hpos, Nat.div_eq_of_lt hjl]; rfl
    have hmod : (i * sz + j) % sz = j := by rw [Nat.mul_comm, Nat.mul_add_mod, Nat.mod_eq_of_lt hjl]
    rw [hd, hmod, he]
    exact hy

def tyBytes (P : Program) (t : TypeId) : Option Nat := (P.info? t).map (·.bytes)

/-- The names behind an append: the old row's name is no longer in use, the new row has a name of its own. -/
def apk (k : Nat → TS) (old : Option Nat) (d : Nat) (tk : Tok) : Nat → TS := match old with
  | none => upd k d (.live tk)
  | some t => upd (upd k t .dead) d (.live tk)
structure ApdOk (P : Program) (k : Nat → TS) (t e : TypeId) (sz by' : Nat) (s : PV) (es ys : List (List PV)) (wr : Bool) (old : Option Nat) : Prop where
  elem : tyElem P t = some (e, sz)
  pos : 0 < sz
  zero : ∃ z, tyZero P e = some z ∧ z.length = sz
  bytes : tyBytes P e = some by'
  bpos : 0 < by'
  fits : (es.length + ys.length) * by' ≤ 140737488355328
  all : ∀ y ∈ ys, y.length = sz
  one : ∀ y ∈ ys, ∀ c ∈ y, PV.one k c = true
  src : (s = .nils ∧ es = [] ∧ old = none ∧ wr = true) ∨ ∃ tk, s = .ref tk sz 0 es.length ∧ old = some tk ∧ k tk = .live (.row e sz es wr)

theorem run_apd (hi : Inv fr k μ w) {t e ty : TypeId} {sz by' : Nat} {s x : PV} {es ys : List (List PV)} {wr : Bool} {old : Option Nat} (A : ApdOk P k t e sz by' s es ys wr old) {v u : Value}
    (hs : RepV w (Cold fr k μ) μ v s) (hx : RepV w (Cold fr k μ) μ u x) (hy : srcs k x = some ys) {d : Nat} (hd : k d = .fresh) :
    ∃ r w' μ', (Builtin.append_ #[t, t] ty #[v, u]).run P w = .ok r w' ∧ Inv fr (apk k old d (.row e sz (es ++ ys) wr)) μ' w' ∧ Keeps w w' (Cold fr k μ) (Cold fr (apk k old d (.row e sz (es ++ ys) wr)) μ') μ μ' ∧
      RepV w' (Cold fr (apk k old d (.row e sz (es ++ ys) wr)) μ') μ' r (.ref d sz 0 (es.length + ys.length)) := by
  obtain ⟨hel, hpos, ⟨zl, hz, hzl⟩, hby, hbp, hfits, hall, hone, hsrc⟩ := A
  obtain ⟨hu, inf, hinf, hisz⟩ := tyElem_run hel
  obtain ⟨z, _, hzz, it, hit, hiz⟩ := tyZero_run hz w
  rw [hinf] at hit; cases hit
  have hzs : z.cells.size = sz := by rw [← hzl, hzz]; simp
  have hib : inf.bytes = by' := by unfold tyBytes at hby; rw [hinf] at hby; simpa using hby
  have hm47 : es.length + ys.length ≤ 140737488355328 := Nat.le_trans (Nat.le_mul_of_pos_right _ hbp) hfits
  obtain ⟨Ax, cx, rfl, hxc⟩ := srcs_rep hi hall hx hy
  -- a new block
  have grow : ∀ (olds : List Value), olds.length = es.length * sz → (∀ (i j : Nat) (x : List PV) (y : PV), es[i]? = some x → x[j]? = some y → ∃ v, olds[i * sz + j]? = some v ∧ RepV w (Cold fr k μ) μ v y) → (∀ y ∈ es, y.length = sz) →
      ∀ (news : List Value), news.length = ys.length * sz → (∀ (i j : Nat) (x : List PV) (y : PV), ys[i]? = some x → x[j]? = some y → ∃ v, news[i * sz + j]? = some v ∧ RepV w (Cold fr k μ) μ v y) →
      ∀ cap, es.length + ys.length ≤ cap → cap ≤ maxLen →
      let k' := upd k d (.live (.row e sz (es ++ ys) wr)); let μ' := upd μ d (some (.at w.heap.size))
      let w' := w.drew.alloc (.cells (olds.toArray ++ news.toArray ++ Builtin.zeroCells z.cells (cap - (es.length + ys.length))) e)
      Inv fr k' μ' w' ∧ Keeps w w' (Cold fr k μ) (Cold fr k' μ') μ μ' ∧ RepV w' (Cold fr k' μ') μ' (.slice (some ⟨w.heap.size, 0, none⟩) (es.length + ys.length) cap) (.ref d sz 0 (es.length + ys.length)) := by
    intro olds hol hoc hesz news hnl hnc cap hcap hcm
    have hb : Below w.heap.size w w.drew := (Below.refl _ _).drew
    have hi1 := hi.below hb
    have K1 := Keeps.below hi hb
    have h := new_row hi1 (cs := olds.toArray ++ news.toArray ++ Builtin.zeroCells z.cells (cap - (es.length + ys.length))) (e := e) (sz := sz) (c := cap) (es := es ++ ys) wr hpos
      (fun x hx => by rcases List.mem_append.1 hx with h | h; exact hesz x h; exact hall x h)
      (by simp only [Array.size_append, List.size_toArray, size_zeroCells, hzs, hol, hnl, ← Nat.add_mul]; congr 1; omega) (by simpa using hcap) hcm
      (fun i j x y hx hy => by
        have hxl : x.length = sz := by rcases List.mem_append.1 (List.mem_of_getElem? hx) with h | h; exact hesz x h; exact hall x h
        obtain ⟨hjl, _⟩ := List.getElem?_eq_some_iff.1 hy
        by_cases hie : i < es.length
        · rw [List.getElem?_append_left hie] at hx
          obtain ⟨v, hv, hr⟩ := hoc i j x y hx hy
          have hmul : (i + 1) * sz ≤ es.length * sz := Nat.mul_le_mul_right _ hie
          rw [Nat.add_mul, Nat.one_mul] at hmul
          refine ⟨v, ?_, hr.mono K1⟩
          rw [Array.append_assoc, Array.getElem?_append_left (by simp; omega)]
          simpa using hv
        · rw [List.getElem?_append_right (by omega)] at hx
          obtain ⟨v, hv, hr⟩ := hnc _ j x y hx hy
          obtain ⟨hil, _⟩ := List.getElem?_eq_some_iff.1 hx
          have hmul : (i - es.length + 1) * sz ≤ ys.length * sz := Nat.mul_le_mul_right _ hil
          have hmul2 : es.length * sz + (i - es.length) * sz = i * sz := by rw [← Nat.add_mul]; congr 1; omega
          rw [Nat.add_mul, Nat.one_mul] at hmul
          refine ⟨v, ?_, hr.mono K1⟩
          rw [Array.getElem?_append_left (by simp; omega), Array.getElem?_append_right (by simp; omega)]
          have : i * sz + j - olds.toArray.size = (i - es.length) * sz + j := by simp [hol]; omega
          rw [this]; simpa using hv) hd
    simp only [List.length_append] at h
    exact ⟨h.1, K1.trans h.2.1, h.2.2⟩
  rcases hsrc with ⟨rfl, rfl, rfl, rfl⟩ | ⟨tk, rfl, rfl, hk⟩
  · obtain rfl := hs.nils_inv
    by_cases hm : ys = []
    · subst hm
      refine ⟨.slice none 0 0, w, upd μ d (some .nil), ?_, Inv.virt hi e hpos true hd, Keeps.virt hi hd, .ref _ _ _ _ _ (by simp [upd_same]) (fun _ => ⟨rfl, rfl, rfl⟩) (fun b hb => by rw [upd_same] at hb; cases hb)⟩
      simp only [Builtin.append_]
      simp [run_underlying hu, sizeOf, typeInfo, hinf, Builtin.lenOf, Builtin.firstCells, loadCells, loadCellsFrom]
      cases Ax <;> simp [Builtin.firstCells, loadCells, loadCellsFrom]
    · obtain ⟨b, o, rfl, hcell⟩ := hxc hm
      obtain ⟨news, hnl, hnews, hn1, hnr⟩ := srcs_vals hi hpos hall hone hcell
      have hlen : 0 < ys.length := List.length_pos_iff.2 hm
      have hr := run_append_nil (P := P) w t ty e inf z hu hinf hiz ⟨b, o, none⟩ ys.length cx news (by rw [hisz]; exact hnl) hnews hlen (by simp only [List.length_nil, Nat.zero_add] at hm47; omega) (by rw [hib]; simp only [List.length_nil, Nat.zero_add] at hfits; omega)
      have hg := grow [] (by simp) (by simp) (by simp) news hnl hnr (grownCap w ys.length 0 e) (by simpa using grownCap_ge w ys.length 0 e) (grownCap_le_maxLen w _ _ e (by simp only [maxLen]; simp only [List.length_nil, Nat.zero_add] at hm47; omega))
      simp only [List.length_nil, Nat.zero_add, Array.empty_append, List.nil_append] at hg
      exact ⟨_, _, _, hr, by simpa [apk] using hg.1, by simpa [apk] using hg.2.1, by simpa [apk] using hg.2.2⟩
  · obtain ⟨p, hp, ⟨_, hesz⟩, hrow⟩ := hi.live tk _ hk
    have htd : tk ≠ d := by rintro rfl; rw [hk] at hd; cases hd
    cases hs with
    | base _ _ h => cases h
    | ref _ _ _ _ _ hu' hn hat =>
      -- under the old name first, then under the new one
      have fin : ∀ (r : Value) (w' : World) (μ1 : Nat → Option Pl) (p' : Pl), (Builtin.append_ #[t, t] ty #[v, .slice Ax ys.length cx]).run P w = .ok r w' → μ1 tk = some p' →
          Inv fr (upd k tk (.live (.row e sz (es ++ ys) wr))) μ1 w' → Keeps w w' (Cold fr k μ) (Cold fr (upd k tk (.live (.row e sz (es ++ ys) wr))) μ1) μ μ1 →
          (p' = .nil → es.length + ys.length = 0 ∧ r = .slice none 0 0) →
          (∀ b, p' = .at b → ∃ A c, r = .slice A (es.length + ys.length) c ∧ es.length + ys.length ≤ c ∧ (c = 0 ∨ A = some ⟨b, 0 * sz, none⟩) ∧ ∀ cs e' fz, w'.heap[b]? = some (.cells cs e' fz) → (0 + c) * sz = cs.size) →
          ∃ r w' μ', (Builtin.append_ #[t, t] ty #[v, .slice Ax ys.length cx]).run P w = .ok r w' ∧ Inv fr (apk k (some tk) d (.row e sz (es ++ ys) wr)) μ' w' ∧ Keeps w w' (Cold fr k μ) (Cold fr (apk k (some tk) d (.row e sz (es ++ ys) wr)) μ') μ μ' ∧
            RepV w' (Cold fr (apk k (some tk) d (.row e sz (es ++ ys) wr)) μ') μ' r (.ref d sz 0 (es.length + ys.length)) := by
        intro r w' μ1 p' hr hp1 hi1 K1 hnil hat1
        have hk1 : upd k tk (TS.live (.row e sz (es ++ ys) wr)) tk = .live (.row e sz (es ++ ys) wr) := upd_same ..
        have hd1 : upd k tk (TS.live (.row e sz (es ++ ys) wr)) d = .fresh := by rw [upd_ne _ _ _ _ (Ne.symm htd)]; exact hd
        have hke : upd (upd (upd k tk (TS.live (.row e sz (es ++ ys) wr))) tk .dead) d (.live (.row e sz (es ++ ys) wr)) = apk k (some tk) d (.row e sz (es ++ ys) wr) := by
          funext i; simp only [apk, upd]; repeat' split
          all_goals rfl
        have hi2 := hi1.rename hk1 hd1
        have K2 := Keeps.rename hi1 hk1 hd1
        rw [hke] at hi2 K2
        refine ⟨r, w', _, hr, hi2, K1.trans K2, .ref _ _ _ _ _ (by rw [upd_same, hp1]; simp) (fun h => ?_) (fun b hb => ?_)⟩
        · rw [upd_same, hp1] at h; cases h
          exact ⟨rfl, hnil rfl⟩
        · rw [upd_same, hp1] at hb; cases hb
          exact hat1 b rfl
      by_cases hm : ys = []
      · subst hm
        simp only [List.append_nil, List.length_nil, Nat.add_zero] at fin ⊢
        have hkk : upd k tk (TS.live (.row e sz es wr)) = k := by funext i; simp only [upd]; split; (rename_i h; rw [h, hk]); rfl
        have hrun : ∀ A n c, n ≤ c → (Builtin.append_ #[t, t] ty #[.slice A n c, .slice Ax 0 cx]).run P w = .ok (.slice A n c) w := by
          intro A n c hnc
          simp only [Builtin.append_]
          simp [run_underlying hu, sizeOf, typeInfo, hinf, Builtin.lenOf, hnc]
          cases Ax <;> simp [Builtin.firstCells, loadCells, loadCellsFrom] <;> cases A <;> simp [storeCells]
        by_cases hnn : μ tk = some .nil
        · obtain ⟨_, hl0, rfl⟩ := hn hnn
          refine fin _ w μ .nil (hrun none 0 0 (Nat.le_refl _)) hnn (by rw [hkk]; exact hi) (by rw [hkk]; exact Keeps.below hi (Below.refl _ _)) (fun _ => ⟨hl0, rfl⟩) (fun b hb => by cases hb)
        · obtain ⟨b, hb⟩ := live_at hi (by simp [isLive, hk]) hnn
          obtain ⟨A, c, rfl, hnc, hA, hcap⟩ := hat b hb
          exact fin _ w μ (.at b) (hrun A _ c hnc) hb (by rw [hkk]; exact hi) (by rw [hkk]; exact Keeps.below hi (Below.refl _ _)) (fun h => by cases h) (fun b' hb' => by cases hb'; exact ⟨A, c, rfl, hnc, hA, hcap⟩)
      · obtain ⟨b0, o0, rfl, hcell0⟩ := hxc hm
        obtain ⟨news, hnl, hnews, hn1, hnr⟩ := srcs_vals hi hpos hall hone hcell0
        have hlen : 0 < ys.length := List.length_pos_iff.2 hm
        -- a new block behind the old row, whose name goes
        have growing : ∀ (olds : List Value) (cap : Nat) (r : Value), olds.length = es.length * sz → (∀ (i j : Nat) (x : List PV) (y : PV), es[i]? = some x → x[j]? = some y → ∃ v, olds[i * sz + j]? = some v ∧ RepV w (Cold fr k μ) μ v y) →
            es.length + ys.length ≤ cap → cap ≤ maxLen → r = .slice (some ⟨w.heap.size, 0, none⟩) (es.length + ys.length) cap →
            (Builtin.append_ #[t, t] ty #[v, .slice (some ⟨b0, o0, none⟩) ys.length cx]).run P w = .ok r (w.drew.alloc (.cells (olds.toArray ++ news.toArray ++ Builtin.zeroCells z.cells (cap - (es.length + ys.length))) e)) →
            ∃ r w' μ', (Builtin.append_ #[t, t] ty #[v, .slice (some ⟨b0, o0, none⟩) ys.length cx]).run P w = .ok r w' ∧ Inv fr (apk k (some tk) d (.row e sz (es ++ ys) wr)) μ' w' ∧ Keeps w w' (Cold fr k μ) (Cold fr (apk k (some tk) d (.row e sz (es ++ ys) wr)) μ') μ μ' ∧
              RepV w' (Cold fr (apk k (some tk) d (.row e sz (es ++ ys) wr)) μ') μ' r (.ref d sz 0 (es.length + ys.length)) := by
          intro olds cap r hol hoc hcap hcm hr0 hr
          obtain ⟨g1, g2, g3⟩ := grow olds hol hoc hesz news hnl hnr cap hcap hcm
          have hless : Less (upd k d (.live (.row e sz (es ++ ys) wr))) (apk k (some tk) d (.row e sz (es ++ ys) wr)) := by
            intro i
            simp only [apk, upd]
            by_cases h1 : i = d
            · left; simp [h1]
            · simp only [if_neg h1]
              by_cases h2 : i = tk
              · right; left; simp [h2, hk]
              · left; simp [h2]
          have hi2 := g1.less hless
          have K2 := Keeps.less g1 hless
          refine ⟨r, _, _, hr, hi2, g2.trans K2, ?_⟩
          rw [hr0]
          exact g3.mono K2
        by_cases hnn : μ tk = some .nil
        · obtain ⟨_, hl0, rfl⟩ := hn hnn
          have hes : es = [] := List.eq_nil_of_length_eq_zero hl0
          subst hes
          have hr := run_append_nil (P := P) w t ty e inf z hu hinf hiz ⟨b0, o0, none⟩ ys.length cx news (by rw [hisz]; exact hnl) hnews hlen (by simp only [List.length_nil, Nat.zero_add] at hm47; omega) (by rw [hib]; simp only [List.length_nil, Nat.zero_add] at hfits; omega)
          exact growing [] (grownCap w ys.length 0 e) _ (by simp) (by simp) (by simpa using grownCap_ge w ys.length 0 e) (grownCap_le_maxLen w _ _ e (by simp only [maxLen]; simp only [List.length_nil, Nat.zero_add] at hm47; omega)) rfl (by simpa using hr)
        · obtain ⟨b, hb⟩ := live_at hi (by simp [isLive, hk]) hnn
          obtain ⟨A, c, rfl, hnc, hA, hcap⟩ := hat b hb
          rw [hb] at hp; cases hp
          rcases hrow with ⟨h, _⟩ | ⟨b', cs, c', hb', hh, hcs, hle', hcm, hcell⟩
          · cases h
          · cases hb'
            have hcc : c = c' := by
              have := hcap cs _ _ hh
              rw [hcs, Nat.zero_add] at this
              exact Nat.eq_of_mul_eq_mul_right hpos this
            subst hcc
            by_cases hc0 : c = 0
            · subst hc0
              have hes : es = [] := List.eq_nil_of_length_eq_zero (by omega)
              subst hes
              have hr : ∃ cap, ys.length ≤ cap ∧ cap ≤ maxLen ∧ (Builtin.append_ #[t, t] ty #[.slice A 0 0, .slice (some ⟨b0, o0, none⟩) ys.length cx]).run P w = .ok (.slice (some ⟨w.heap.size, 0, none⟩) ys.length cap) (w.drew.alloc (.cells (news.toArray ++ Builtin.zeroCells z.cells (cap - ys.length)) e)) := by
                refine ⟨grownCap w ys.length 0 e, grownCap_ge w _ _ e, grownCap_le_maxLen w _ _ e (by simp only [maxLen]; simp only [List.length_nil, Nat.zero_add] at hm47; omega), ?_⟩
                cases A with
                | none => exact run_append_nil (P := P) w t ty e inf z hu hinf hiz ⟨b0, o0, none⟩ ys.length cx news (by rw [hisz]; exact hnl) hnews hlen (by simp only [List.length_nil, Nat.zero_add] at hm47; omega) (by rw [hib]; simp only [List.length_nil, Nat.zero_add] at hfits; omega)
                | some A =>
                  have hr := run_append_grow (P := P) w t ty e inf z hu hinf hiz A 0 0 [] (by simp) (by simp) ⟨b0, o0, none⟩ ys.length cx news (by rw [hisz]; exact hnl) hnews (by omega) (by simp only [List.length_nil, Nat.zero_add] at hm47; omega) (growslice_fits (by omega) (by rw [hib]; simpa using hfits))
                  simpa using hr
              obtain ⟨cap, h1, h2, h3⟩ := hr
              exact growing [] cap _ (by simp) (by simp) (by simpa using h1) h2 rfl (by simpa using h3)
            · have hA' : A = some ⟨b, 0, none⟩ := by have := hA.resolve_left hc0; simpa using this
              subst hA'
              by_cases hroom : es.length + ys.length ≤ c
              · have hfit : es.length * inf.size + news.length ≤ cs.size := by rw [hnl, hcs, hisz, ← Nat.add_mul]; exact Nat.mul_le_mul_right _ hroom
                have hr := run_append_room (P := P) w t ty e inf hu hinf b es.length c cs hh ⟨b0, o0, none⟩ ys.length cx news (by rw [hisz]; exact hnl) hnews hn1 hroom hfit
                rw [hisz] at hr hfit
                have harr : cs.toList.take (es.length * sz) ++ news ++ cs.toList.drop (es.length * sz + news.length) = setR cs.toList (es.length * sz) news := rfl
                rw [harr] at hr
                have hget := fun i => setR_toArray_get cs (es.length * sz) news hfit i
                have K1 : Keeps w (w.setRow b (setR cs.toList (es.length * sz) news).toArray) (Cold fr k μ) (Cold fr (upd k tk (.live (.row e sz (es ++ ys) wr))) μ) μ μ := by
                  refine ⟨fun a v hc hv => ?_, fun t h => h, fun t p _ h _ => h, fun t' b' cs2 e2 fz2 h1 _ hbb => ?_⟩
                  · refine ⟨⟨hc.1, fun t' tk'' b' hk' hm' hb' => ?_⟩, ?_⟩
                    · by_cases e3 : t' = tk
                      · subst e3; rw [upd_same] at hk'; cases hk'
                        obtain ⟨h1, h2⟩ := hc.2 t' _ b' hk hm' hb'
                        refine ⟨h1, ?_⟩
                        rw [List.length_append, Nat.add_mul]; omega
                      · rw [upd_ne _ _ _ _ e3] at hk'; exact hc.2 t' tk'' b' hk' hm' hb'
                    · by_cases hab : a.block = b
                      · obtain ⟨h1, h2⟩ := hc.2 tk _ b hk hb hab
                        have hspot : a.spot = none := by
                          cases hsp : a.spot with
                          | none => rfl
                          | some q => simp only [World.cell?, hab, hh, hsp] at hv; simp at hv
                        have ha : a = ⟨b, a.off, none⟩ := by cases a; simp only at hab hspot; subst hab; subst hspot; rfl
                        rw [ha] at hv ⊢
                        rw [cell_of_row _ b _ _ _ _ (setRow_heap w b cs _ _ _ hh), hget, if_neg (by omega)]
                        rw [cell_of_row w b _ cs _ _ hh] at hv
                        exact hv
                      · exact (World.cell?_of_block (setRow_other w b a.block _ hab)).trans hv
                  · by_cases hne : b' = b
                    · subst hne
                      rw [setRow_heap w b' cs _ _ _ hh] at hbb
                      cases hbb
                      exact ⟨cs, _, _, hh, (setR_size _ _ _ hfit).symm⟩
                    · rw [setRow_other w b b' _ hne] at hbb; exact ⟨cs2, e2, fz2, hbb, rfl⟩
                have hi1 := Inv.write (tk' := .row e sz (es ++ ys) wr) hi hk hb hh K1 ⟨⟨hpos, fun x hx => by rcases List.mem_append.1 hx with h | h; exact hesz x h; exact hall x h⟩, .inr ⟨b, _, c, rfl, setRow_heap w b cs _ _ _ hh, by rw [setR_size _ _ _ hfit]; exact hcs, by simpa using hroom, hcm, fun i j x y hx hy => by
                  have hxl : x.length = sz := by rcases List.mem_append.1 (List.mem_of_getElem? hx) with h | h; exact hesz x h; exact hall x h
                  obtain ⟨hjl, _⟩ := List.getElem?_eq_some_iff.1 hy
                  rw [hget]
                  by_cases hie : i < es.length
                  · rw [List.getElem?_append_left hie] at hx
                    obtain ⟨v, hv, hr⟩ := hcell i j x y hx hy
                    have hmul : (i + 1) * sz ≤ es.length * sz := Nat.mul_le_mul_right _ hie
                    rw [Nat.add_mul, Nat.one_mul] at hmul
                    rw [if_neg (by omega)]
                    exact ⟨v, hv, hr.mono K1⟩
                  · rw [List.getElem?_append_right (by omega)] at hx
                    obtain ⟨v, hv, hr⟩ := hnr _ j x y hx hy
                    obtain ⟨hil, _⟩ := List.getElem?_eq_some_iff.1 hx
                    have hmul : (i - es.length + 1) * sz ≤ ys.length * sz := Nat.mul_le_mul_right _ hil
                    have hmul2 : es.length * sz + (i - es.length) * sz = i * sz := by rw [← Nat.add_mul]; congr 1; omega
                    rw [Nat.add_mul, Nat.one_mul] at hmul
                    rw [if_pos ⟨by omega, by omega⟩]
                    have : i * sz + j - es.length * sz = (i - es.length) * sz + j := by omega
                    rw [this]
                    exact ⟨v, hv, hr.mono K1⟩⟩⟩
                exact fin _ _ μ (.at b) hr hb hi1 K1 (fun h => by cases h) (fun b' hb' => by cases hb'; exact ⟨_, c, rfl, hroom, .inr (by simp), fun cs2 e2 fz2 hbk => by
                  rw [setRow_heap w b cs _ _ _ hh] at hbk
                  cases hbk
                  rw [Nat.zero_add, setR_size _ _ _ hfit]; exact hcs.symm⟩)
              · -- the old cells are read
                have holds : ∀ j u, (cs.toList.take (es.length * sz))[j]? = some u → w.cell? ((⟨b, 0, none⟩ : Addr).add j) = some u := by
                  intro j u hu2
                  rw [List.getElem?_take] at hu2
                  split at hu2
                  · rw [Addr.add_lit, Nat.zero_add, cell_of_row w b j cs _ _ hh]; simpa using hu2
                  · cases hu2
                have hol : (cs.toList.take (es.length * sz)).length = es.length * sz := by
                  simp only [List.length_take, Array.length_toList, hcs]
                  have : es.length * sz ≤ c * sz := Nat.mul_le_mul_right _ hnc
                  omega
                have hr := run_append_grow (P := P) w t ty e inf z hu hinf hiz ⟨b, 0, none⟩ es.length c (cs.toList.take (es.length * sz)) (by rw [hisz]; exact hol) holds ⟨b0, o0, none⟩ ys.length cx news (by rw [hisz]; exact hnl) hnews (by omega) (by omega) (growslice_fits (by omega) (by rw [hib]; exact hfits))
                refine growing _ (grownCap w (es.length + ys.length) c e) _ hol (fun i j x y hx hy => ?_) (grownCap_ge w _ _ e) (grownCap_le_maxLen w _ _ e (by simp only [maxLen]; omega)) rfl hr
                obtain ⟨v, hv, hr'⟩ := hcell i j x y hx hy
                obtain ⟨hil, _⟩ := List.getElem?_eq_some_iff.1 hx
                obtain ⟨hjl, _⟩ := List.getElem?_eq_some_iff.1 hy
                rw [hesz x (List.mem_of_getElem? hx)] at hjl
                have hmul : (i + 1) * sz ≤ es.length * sz := Nat.mul_le_mul_right _ hil
                rw [Nat.add_mul, Nat.one_mul] at hmul
                exact ⟨v, by rw [List.getElem?_take, if_pos (by omega)]; simpa using hv, hr'⟩
end

end Go.V
/- The value logic, part N: new names for old ones. Nothing is assumed. -/
set_option linter.unusedVariables false
set_option linter.unusedSimpArgs false
namespace Go.V
open Go.RowKit (Below)

/-- Values without names. -/
def PV.pure1 : PV → Bool
  | .ref .. | .ptr .. | .ep .. | .mp .. | .fn .. | .agg .. | .tup .. => false
  | _ => true
def PV.pure : PV → Bool
  | .agg xs => xs.all PV.pure1
  | .fn _ xs => xs.all PV.pure1
  | .tup xs => xs.all fun x => match x with | .agg ys => ys.all PV.pure1 | x => x.pure1
  | x => x.pure1
theorem pure1_rep {w : World} {C C' : Addr → Prop} {μ μ' : Nat → Option Pl} (hc : ∀ a v, C a → w.cell? a = some v → C' a) {v : Value} {x : PV} (h : RepV w C μ v x) (hp : x.pure1 = true) : RepV w C' μ' v x := by
  cases h with
  | base _ _ h => exact .base _ _ (h.mono fun a v h1 h2 => ⟨hc a v h1 h2, h2⟩)
  | und x => exact .und x
  | _ => cases hp
theorem pure_rep {w : World} {C C' : Addr → Prop} {μ μ' : Nat → Option Pl} (hc : ∀ a v, C a → w.cell? a = some v → C' a) {v : Value} {x : PV} (h : RepV w C μ v x) (hp : x.pure = true) : RepV w C' μ' v x := by
  cases x with
  | agg xs =>
    obtain ⟨cs, rfl, hl, hr⟩ := h.agg_inv
    exact .agg _ _ hl (fun i v x hv hx => pure1_rep hc (hr i v x hv hx) (List.all_eq_true.1 hp x (List.mem_of_getElem? hx)))
  | fn f xs =>
    obtain ⟨cs, rfl, hl, hr⟩ := h.fn_inv
    exact .fn _ _ _ hl (fun i v x hv hx => pure1_rep hc (hr i v x hv hx) (List.all_eq_true.1 hp x (List.mem_of_getElem? hx)))
  | tup xs =>
    obtain ⟨cs, rfl, hl, hr⟩ := h.tup_inv
    refine .tup _ _ hl (fun i v x hv hx => ?_)
    have h1 := List.all_eq_true.1 hp x (List.mem_of_getElem? hx)
    have h2 := hr i v x hv hx
    cases x with
    | agg ys =>
      obtain ⟨cs', rfl, hl', hr'⟩ := h2.agg_inv
      exact .agg _ _ hl' (fun i v x hv hx => pure1_rep hc (hr' i v x hv hx) (List.all_eq_true.1 h1 x (List.mem_of_getElem? hx)))
    | _ => exact pure1_rep hc h2 h1
  | _ => exact pure1_rep hc h hp


/-- An explicit state: what is not listed is not told. -/
def mkG : List (Nat × PV) → Nat → PV
  | [], _ => .any
  | (s, x) :: r, i => if i = s then x else mkG r i
def mkK : List (Nat × Tok) → Nat → TS
  | [], _ => .fresh
  | (s, x) :: r, i => if i = s then .live x else mkK r i

/-- New names: where each comes from (an old name, or a nil slice), and what it holds. -/
abbrev Nms := List (Nat × Option Nat × Tok)
def Nms.src (K : Nms) (t : Nat) : Option (Option Nat) := (K.find? fun p => p.1 == t).map (·.2.1)
def Nms.tk (K : Nms) (t : Nat) : Option Tok := (K.find? fun p => p.1 == t).map (·.2.2)
def Nms.k (K : Nms) (t : Nat) : TS := match K.tk t with | some tk => .live tk | none => .fresh
def Nms.μ (K : Nms) (μ : Nat → Option Pl) (t : Nat) : Option Pl := match K.src t with
  | some (some o) => μ o
  | some none => some .nil
  | none => none
/-- The old value that a new one stands for. -/
def ren1 (K : Nms) : PV → Option PV
  | .ref t sz lo n => match K.src t with
    | some (some o) => some (.ref o sz lo n)
    | some none => if lo = 0 ∧ n = 0 then some .nils else none
    | none => none
  | .ptr t off => match K.src t with
    | some (some o) => some (.ptr o off)
    | _ => none
  | .ep t sz i off => match K.src t with
    | some (some o) => some (.ep o sz i off)
    | _ => none
  | .mp t => match K.src t with
    | some (some o) => some (.mp o)
    | _ => none
  | x => if x.pure1 then some x else none
def ren2 (K : Nms) : PV → Option PV
  | .agg xs => match xs.mapM (ren1 K) with | some ys => some (.agg ys) | none => none
  | x => ren1 K x
def ren (K : Nms) : PV → Option PV
  | .agg xs => match xs.mapM (ren1 K) with | some ys => some (.agg ys) | none => none
  | .tup xs => match xs.mapM (ren2 K) with | some ys => some (.tup ys) | none => none
  | .fn f xs => match xs.mapM (ren1 K) with | some ys => some (.fn f ys) | none => none
  | x => ren1 K x
def Tok.pure : Tok → Bool
  | .row _ _ es _ => es.all fun e => e.all PV.pure1
  | .box xs _ => xs.all PV.pure1
  | .map _ => false
  | .arr .. => false
def renT (K : Nms) (tk : Tok) : Option Tok := if tk.pure then some tk else match tk with
  | .box xs wr => match xs.mapM (ren1 K) with | some ys => some (.box ys wr) | none => none
  | _ => none
def Nms.ok (K : Nms) (k : Nat → TS) : Prop := ∀ p ∈ K, match p.2.1 with
  | some o => ∃ tk, k o = .live tk ∧ renT K p.2.2 = some tk
  | none => ∃ e sz, p.2.2 = .row e sz [] true ∧ 0 < sz
/-- No two new names come from one old name. -/
def Nms.inj (K : Nms) : Bool := (K.map (·.1)).Nodup && (K.filterMap (·.2.1)).Nodup

section
variable {fr : Fr} {μ : Nat → Option Pl} {k : Nat → TS} {w : World} {n : Nat} {K : Nms}
theorem Nms.src_mem {t : Nat} {s : Option Nat} (h : K.src t = some s) : ∃ tk, (t, s, tk) ∈ K ∧ K.tk t = some tk := by
  unfold Nms.src at h
  cases hf : K.find? (fun p => p.1 == t) with
  | none => rw [hf] at h; cases h
  | some p =>
    rw [hf] at h
    obtain ⟨a, b, c⟩ := p
    have h1 := List.find?_some hf
    simp only [beq_iff_eq] at h1
    subst h1
    simp only [Option.map_some, Option.some.injEq] at h
    subst h
    exact ⟨c, List.mem_of_find?_eq_some hf, by simp [Nms.tk, hf]⟩
theorem Nms.tk_src {t : Nat} {tk : Tok} (h : K.tk t = some tk) : ∃ s, K.src t = some s ∧ (t, s, tk) ∈ K := by
  unfold Nms.tk at h
  cases hf : K.find? (fun p => p.1 == t) with
  | none => rw [hf] at h; cases h
  | some p =>
    rw [hf] at h
    obtain ⟨a, b, c⟩ := p
    have h1 := List.find?_some hf
    simp only [beq_iff_eq] at h1
    subst h1
    simp only [Option.map_some, Option.some.injEq] at h
    subst h
    exact ⟨b, by simp [Nms.src, hf], List.mem_of_find?_eq_some hf⟩
theorem Nms.k_mk (K : Nms) : K.k = mkK (K.map fun p => (p.1, p.2.2)) := by
  funext t
  unfold Nms.k Nms.tk
  induction K with
  | nil => rfl
  | cons p K ih =>
    obtain ⟨a, b, c⟩ := p
    simp only [List.find?_cons, List.map_cons, mkK]
    by_cases e : t = a
    · subst e; simp
    · have e' : (a == t) = false := by simpa using fun h => e h.symm
      simp only [e', if_neg e]
      exact ih
theorem Nms.k_live {t : Nat} {tk : Tok} (h : K.k t = .live tk) : K.tk t = some tk := by
  unfold Nms.k at h
  split at h <;> first | (cases h; assumption) | cases h
theorem mapM_get {α β : Type} {f : α → Option β} : ∀ {l : List α} {m : List β}, l.mapM f = some m → l.length = m.length ∧ ∀ (i : Nat) (x : α) (y : β), l[i]? = some x → m[i]? = some y → f x = some y
  | [], m, h => by simp at h; subst h; exact ⟨rfl, by simp⟩
  | x :: l, m, h => by
    rw [List.mapM_cons] at h
    cases hx : f x with
    | none => rw [hx] at h; cases h
    | some y =>
      rw [hx] at h
      cases hl : l.mapM f with
      | none => rw [hl] at h; cases h
      | some m' =>
        rw [hl] at h
        cases h
        obtain ⟨h1, h2⟩ := mapM_get hl
        refine ⟨by simp [h1], fun i a b ha hb => ?_⟩
        cases i with
        | zero => simp at ha hb; subst ha; subst hb; exact hx
        | succ i => exact h2 i a b (by simpa using ha) (by simpa using hb)
theorem renT_cold {tk tk0 : Tok} (h : renT K tk = some tk0) (i : Nat) : tk0.cold i → tk.cold i := by
  unfold renT at h
  split at h
  · cases h; exact id
  · split at h
    · split at h
      · rename_i xs wr ys hm
        cases h
        have := (mapM_get hm).1
        simp only [Tok.cold]
        intro ⟨a, b⟩
        exact ⟨a, by omega⟩
      · cases h
    · cases h

theorem Nms.cold (hi : Inv fr k μ w) (hK : K.ok k) {a : Addr} (h : Cold fr k μ a) : Cold fr K.k (K.μ μ) a := by
  refine ⟨h.1, fun t tk b hk hm hb => ?_⟩
  obtain ⟨s, hs, hmem⟩ := Nms.tk_src (Nms.k_live hk)
  have hok := hK _ hmem
  simp only [Nms.μ, hs] at hm
  cases s with
  | none => cases hm
  | some o =>
    obtain ⟨tk0, h0, h1⟩ := hok
    exact renT_cold h1 _ (h.2 o tk0 b h0 hm hb)
theorem ren1_rep {C C' : Addr → Prop} (hc : ∀ a v, C a → w.cell? a = some v → C' a) {v : Value} {x y : PV} (hr : ren1 K x = some y) (h : RepV w C μ v y) : RepV w C' (K.μ μ) v x := by
  have pure : x.pure1 = true → y = x → RepV w C' (K.μ μ) v x := fun hp e => by subst e; exact pure1_rep hc h hp
  cases x with
  | ref t sz lo n =>
    simp only [ren1] at hr
    split at hr
    · rename_i o hs
      cases hr
      have hm : K.μ μ t = μ o := by simp [Nms.μ, hs]
      cases h with
      | base _ _ h => cases h
      | ref _ _ _ _ _ hu hn hat => exact .ref t sz lo n v (by rw [hm]; exact hu) (by rw [hm]; exact hn) (by rw [hm]; exact hat)
    · rename_i hs
      split at hr
      · rename_i hz
        obtain ⟨rfl, rfl⟩ := hz
        cases hr
        have hm : K.μ μ t = some .nil := by simp [Nms.μ, hs]
        cases h with
        | base _ _ h =>
          cases h
          exact .ref t sz 0 0 _ (by rw [hm]; simp) (fun _ => ⟨rfl, rfl, rfl⟩) (fun b hb => by rw [hm] at hb; cases hb)
      · cases hr
    · cases hr
  | ptr t off =>
    simp only [ren1] at hr
    split at hr
    · rename_i o hs
      cases hr
      have hm : K.μ μ t = μ o := by simp [Nms.μ, hs]
      cases h with
      | base _ _ h => cases h
      | ptr _ _ _ hu hn hat => exact .ptr t off v (by rw [hm]; exact hu) (by rw [hm]; exact hn) (by rw [hm]; exact hat)
    · cases hr
  | ep t sz i off =>
    simp only [ren1] at hr
    split at hr
    · rename_i o hs
      cases hr
      have hm : K.μ μ t = μ o := by simp [Nms.μ, hs]
      cases h with
      | base _ _ h => cases h
      | ep _ _ _ _ _ hu hn hat => exact .ep t sz i off v (by rw [hm]; exact hu) (by rw [hm]; exact hn) (by rw [hm]; exact hat)
    · cases hr
  | mp t =>
    simp only [ren1] at hr
    split at hr
    · rename_i o hs
      cases hr
      have hm : K.μ μ t = μ o := by simp [Nms.μ, hs]
      cases h with
      | base _ _ h => cases h
      | mp _ _ hu hn hat => exact .mp t v (by rw [hm]; exact hu) (by rw [hm]; exact hn) (by rw [hm]; exact hat)
    · cases hr
  | _ =>
    simp only [ren1] at hr
    split at hr
    · rename_i hp; cases hr; exact pure hp rfl
    · cases hr
theorem renL_rep {C C' : Addr → Prop} (hc : ∀ a v, C a → w.cell? a = some v → C' a) {cs : Array Value} {xs ys : List PV} (hm : xs.mapM (ren1 K) = some ys) (hl : cs.size = ys.length) (h : ∀ (i : Nat) (v : Value) (x : PV), cs[i]? = some v → ys[i]? = some x → RepV w C μ v x) :
    cs.size = xs.length ∧ ∀ (i : Nat) (v : Value) (x : PV), cs[i]? = some v → xs[i]? = some x → RepV w C' (K.μ μ) v x := by
  obtain ⟨h1, h2⟩ := mapM_get hm
  refine ⟨by omega, fun i v x hv hx => ?_⟩
  obtain ⟨hlt, _⟩ := List.getElem?_eq_some_iff.1 hx
  have hy : ys[i]? = some (ys[i]'(by omega)) := List.getElem?_eq_getElem _
  exact ren1_rep hc (h2 i x _ hx hy) (h i v _ hv hy)
theorem ren2_rep {C C' : Addr → Prop} (hc : ∀ a v, C a → w.cell? a = some v → C' a) {v : Value} {x y : PV} (hr : ren2 K x = some y) (h : RepV w C μ v y) : RepV w C' (K.μ μ) v x := by
  cases x with
  | agg xs =>
    simp only [ren2] at hr
    split at hr
    · rename_i ys hm
      cases hr
      obtain ⟨cs, rfl, hl, hr⟩ := h.agg_inv
      obtain ⟨a, b⟩ := renL_rep hc hm hl hr
      exact .agg _ _ a b
    · cases hr
  | _ => exact ren1_rep hc hr h
theorem ren2L_rep {C C' : Addr → Prop} (hc : ∀ a v, C a → w.cell? a = some v → C' a) {cs : Array Value} {xs ys : List PV} (hm : xs.mapM (ren2 K) = some ys) (hl : cs.size = ys.length) (h : ∀ (i : Nat) (v : Value) (x : PV), cs[i]? = some v → ys[i]? = some x → RepV w C μ v x) :
    cs.size = xs.length ∧ ∀ (i : Nat) (v : Value) (x : PV), cs[i]? = some v → xs[i]? = some x → RepV w C' (K.μ μ) v x := by
  obtain ⟨h1, h2⟩ := mapM_get hm
  refine ⟨by omega, fun i v x hv hx => ?_⟩
  obtain ⟨hlt, _⟩ := List.getElem?_eq_some_iff.1 hx
  have hy : ys[i]? = some (ys[i]'(by omega)) := List.getElem?_eq_getElem _
  exact ren2_rep hc (h2 i x _ hx hy) (h i v _ hv hy)
theorem ren_rep {C C' : Addr → Prop} (hc : ∀ a v, C a → w.cell? a = some v → C' a) {v : Value} {x y : PV} (hr : ren K x = some y) (h : RepV w C μ v y) : RepV w C' (K.μ μ) v x := by
  cases x with
  | agg xs =>
    simp only [ren] at hr
    split at hr
    · rename_i ys hm
      cases hr
      obtain ⟨cs, rfl, hl, hr⟩ := h.agg_inv
      obtain ⟨a, b⟩ := renL_rep hc hm hl hr
      exact .agg _ _ a b
    · cases hr
  | tup xs =>
    simp only [ren] at hr
    split at hr
    · rename_i ys hm
      cases hr
      obtain ⟨cs, rfl, hl, hr⟩ := h.tup_inv
      obtain ⟨a, b⟩ := ren2L_rep hc hm hl hr
      exact .tup _ _ a b
    · cases hr
  | fn f xs =>
    simp only [ren] at hr
    split at hr
    · rename_i ys hm
      cases hr
      obtain ⟨cs, rfl, hl, hr⟩ := h.fn_inv
      obtain ⟨a, b⟩ := renL_rep hc hm hl hr
      exact .fn _ _ _ a b
    · cases hr
  | _ => exact ren1_rep hc hr h
theorem renT_rep {C C' : Addr → Prop} (hc : ∀ a v, C a → w.cell? a = some v → C' a) {p : Pl} {tk tk0 : Tok} (h1 : renT K tk = some tk0) (hrep : TokRep w C μ p tk0) : TokRep w C' (K.μ μ) p tk := by
  unfold renT at h1
  split at h1
  · rename_i hpure
    cases h1
    cases tk with
    | box xs wr =>
      obtain ⟨b, cs, e, h1, h2, h3, h4⟩ := hrep
      refine ⟨b, cs, e, h1, h2, h3, fun i x hx => ?_⟩
      obtain ⟨v, hv, hr⟩ := h4 i x hx
      exact ⟨v, hv, pure1_rep hc hr (List.all_eq_true.1 hpure x (List.mem_of_getElem? hx))⟩
    | row e sz es wr =>
      refine ⟨hrep.1, hrep.2.imp id ?_⟩
      rintro ⟨b, cs, c, h1, h2, h3, h4, h5, h6⟩
      refine ⟨b, cs, c, h1, h2, h3, h4, h5, fun i j x y hx hy => ?_⟩
      obtain ⟨v, hv, hr⟩ := h6 i j x y hx hy
      exact ⟨v, hv, pure1_rep hc hr (List.all_eq_true.1 (List.all_eq_true.1 hpure x (List.mem_of_getElem? hx)) y (List.mem_of_getElem? hy))⟩
    | map m => cases hpure
    | arr e sz es => cases hpure
  · cases tk with
    | box xs wr =>
      simp only at h1
      split at h1
      · rename_i ys hm
        cases h1
        obtain ⟨b, cs, e, h1, h2, h3, h4⟩ := hrep
        obtain ⟨q1, q2⟩ := mapM_get hm
        refine ⟨b, cs, e, h1, h2, by omega, fun i x hx => ?_⟩
        obtain ⟨hlt, _⟩ := List.getElem?_eq_some_iff.1 hx
        have hy : ys[i]? = some (ys[i]'(by omega)) := List.getElem?_eq_getElem _
        obtain ⟨v, hv, hr⟩ := h4 i _ hy
        exact ⟨v, hv, ren1_rep hc (q2 i x _ hx hy) hr⟩
      · cases h1
    | row e sz es wr => cases h1
    | map m => cases h1
    | arr e sz es => cases h1
theorem Nms.inv (hi : Inv fr k μ w) (hK : K.ok k) (hj : K.inj = true) : Inv fr K.k (K.μ μ) w := by
  simp only [Nms.inj, Bool.and_eq_true, decide_eq_true_eq] at hj
  have hc : ∀ a v, Cold fr k μ a → w.cell? a = some v → Cold fr K.k (K.μ μ) a := fun a v ha _ => Nms.cold hi hK ha
  have used : ∀ {o : Nat} {tk : Tok}, k o = .live tk → μ o ≠ none := fun hk hm => by have := (hi.used _).1 hm; rw [hk] at this; cases this
  refine ⟨hi.os, hi.tape, hi.output, hi.size, hi.old, fun t => ?_, fun t tk hk => ?_, fun t tk b hk hm => ?_, fun t t' tk tk' b hk hk' hm hm' => ?_, fun t hk => ?_⟩
  · constructor
    · intro hm
      simp only [Nms.μ] at hm
      split at hm
      · rename_i o hs
        obtain ⟨tk, hmem, _⟩ := Nms.src_mem hs
        obtain ⟨tk0, h0, _⟩ := hK _ hmem
        exact absurd hm (used h0)
      · cases hm
      · rename_i hs
        unfold Nms.k
        cases ht : K.tk t with
        | none => rfl
        | some tk => obtain ⟨s, hs', _⟩ := Nms.tk_src ht; rw [hs] at hs'; cases hs'
    · intro hk
      simp only [Nms.μ]
      cases hs : K.src t with
      | none => rfl
      | some s => obtain ⟨tk, _, ht⟩ := Nms.src_mem hs; simp [Nms.k, ht] at hk
  · obtain ⟨s, hs, hmem⟩ := Nms.tk_src (Nms.k_live hk)
    have hok := hK _ hmem
    cases s with
    | none =>
      obtain ⟨e, sz, rfl, hpos⟩ := hok
      exact ⟨.nil, by simp [Nms.μ, hs], ⟨hpos, by simp⟩, .inl ⟨rfl, rfl⟩⟩
    | some o =>
      obtain ⟨tk0, h0, h1⟩ := hok
      obtain ⟨p, hp, hrep⟩ := hi.live o tk0 h0
      exact ⟨p, by simp [Nms.μ, hs, hp], renT_rep hc h1 hrep⟩
  · obtain ⟨s, hs, hmem⟩ := Nms.tk_src (Nms.k_live hk)
    have hok := hK _ hmem
    simp only [Nms.μ, hs] at hm
    cases s with
    | none => cases hm
    | some o =>
      obtain ⟨tk0, h0, h1⟩ := hok
      exact hi.place o tk0 b h0 hm
  · obtain ⟨s, hs, hmem⟩ := Nms.tk_src (Nms.k_live hk)
    obtain ⟨s', hs', hmem'⟩ := Nms.tk_src (Nms.k_live hk')
    have hok := hK _ hmem
    have hok' := hK _ hmem'
    simp only [Nms.μ, hs] at hm
    simp only [Nms.μ, hs'] at hm'
    cases s with
    | none => cases hm
    | some o => cases s' with
      | none => cases hm'
      | some o' =>
        obtain ⟨tk0, h0, h1⟩ := hok
        obtain ⟨tk0', h0', h1'⟩ := hok'
        have ho := hi.inj o o' tk0 tk0' b h0 h0' hm hm'
        subst ho
        -- no two entries have one source
        have key : ∀ (K : Nms), (K.filterMap (·.2.1)).Nodup → (t, some o, tk) ∈ K → (t', some o, tk') ∈ K → t = t' := by
          intro K
          induction K with
          | nil => intro _ h; cases h
          | cons p K ih =>
            intro hn h1 h2
            have hmem : ∀ (t : Nat) (tk : Tok), (t, some o, tk) ∈ K → o ∈ K.filterMap (·.2.1) := fun t tk h => List.mem_filterMap.2 ⟨_, h, rfl⟩
            rcases List.mem_cons.1 h1 with e1 | h1
            · rcases List.mem_cons.1 h2 with e2 | h2
              · rw [← e1] at e2; cases e2; rfl
              · rw [← e1] at hn; simp only [List.filterMap_cons, List.nodup_cons] at hn; exact absurd (hmem _ _ h2) hn.1
            · rcases List.mem_cons.1 h2 with e2 | h2
              · rw [← e2] at hn; simp only [List.filterMap_cons, List.nodup_cons] at hn; exact absurd (hmem _ _ h1) hn.1
              · refine ih ?_ h1 h2
                simp only [List.filterMap_cons] at hn
                split at hn
                · exact hn
                · exact (List.nodup_cons.1 hn).2
        exact key K hj.2 hmem hmem'
  · simp only [Nms.k] at hk
    split at hk <;> cases hk

end

end Go.V
/- The value logic, part 9: what is handed to a call, and what a call gives. Nothing is assumed. -/
set_option linter.unusedVariables false
set_option linter.unusedSimpArgs false
namespace Go.V
open Go.RowKit (Below)

/-- The contract of a function: handed values that read as 'args', it returns one that reads as 'r'; what was there is as it was. -/
def fnOk (P : Program) (f : FuncId) : Bool := match P.funcs[f]? with | some fn => !fn.body.isNone && !(fn.name == "runtime.NumGoroutine") | none => false
def VF (P : Program) (f : FuncId) (args : List PV) (r : PV) : Prop :=
  fnOk P f = true ∧ ∀ (w : World) (S : Addr → Prop) (vs : Array Value), vs.size = args.length → (∀ (i : Nat) (v : Value) (x : PV), vs[i]? = some v → args[i]? = some x → Rep0 w S v x) →
    Calls P f vs w fun e w' => ∃ v, e = .returned v ∧ Below w.heap.size w w' ∧ Rep0 w' (fun a => a.block < w.heap.size → S a) v r

/-- A value as it is handed to a call: own rows as slices that are read, own variables as what they hold. -/
def roS : Nat → (Nat → TS) → PV → PV
  | d + 1, k, .ref t sz lo n => match srcs k (.ref t sz lo n) with
    | some es => .sl (es.map fun e => e.map (roS d k))
    | none => .any
  | d + 1, k, .ptr t off => match k t with
    | .live (.box xs _) => .pro (xs.map (roS d k)) off
    | _ => .any
  | d + 1, k, .ep t sz i off => match view k (.ep t sz i off) with
    | some (xs, off) => .pro (xs.map (roS d k)) off
    | none => .any
  | d + 1, k, .fn f xs => .fn f (xs.map (roS d k))
  | d + 1, k, .agg xs => .agg (xs.map (roS d k))
  | d + 1, k, .tup xs => .tup (xs.map (roS d k))
  | _ + 1, _, .nils => .sl []
  | _, _, .ref .. => .any
  | _, _, .ptr .. => .any
  | _, _, .ep .. => .any
  | _, _, .fn .. => .any
  | _, _, .agg .. => .any
  | _, _, .tup .. => .any
  | _, _, .mp .. => .any
  | _, _, .und _ => .any
  | _, _, x => x
/-- The names that it reads. -/
def deS : Nat → (Nat → TS) → PV → List Nat
  | d + 1, k, .ref t sz lo n => t :: (match srcs k (.ref t sz lo n) with
    | some es => es.flatMap fun e => e.flatMap (deS d k)
    | none => [])
  | d + 1, k, .ptr t off => t :: (match k t with
    | .live (.box xs _) => xs.flatMap (deS d k)
    | _ => [])
  | d + 1, k, .ep t sz i off => t :: (match view k (.ep t sz i off) with
    | some (xs, off) => xs.flatMap (deS d k)
    | none => [])
  | d + 1, k, .fn f xs => xs.flatMap (deS d k)
  | d + 1, k, .agg xs => xs.flatMap (deS d k)
  | d + 1, k, .tup xs => xs.flatMap (deS d k)
  | _, _, _ => []

section
variable {P : Program} {fr : Fr} {μ μ' : Nat → Option Pl} {k k' : Nat → TS} {w w' : World}

def Tok.size : Tok → Nat
  | .box xs _ => xs.length
  | .row _ sz es _ => es.length * sz
  | .map _ => 0
  | .arr .. => 0
/-- Cells that may be read behind some names. -/
def Rd (fr : Fr) (k : Nat → TS) (μ : Nat → Option Pl) (D : Nat → Prop) (a : Addr) : Prop :=
  Cold fr k μ a ∨ ∃ t tk b, D t ∧ k t = .live tk ∧ μ t = some (.at b) ∧ a.block = b ∧ a.off < tk.size

theorem fcell {α : Type} {n : Nat} {p : Nat → α → Prop} [Inhabited α] (h : ∀ i, i < n → ∃ u, p i u) : ∃ f : Nat → α, ∀ i, i < n → p i (f i) := by
  have h' : ∀ i, ∃ u, i < n → p i u := fun i => by
    by_cases hi : i < n
    · obtain ⟨u, hu⟩ := h i hi; exact ⟨u, fun _ => hu⟩
    · exact ⟨default, fun hh => absurd hh hi⟩
  exact ⟨fun i => Classical.choose (h' i), fun i => Classical.choose_spec (h' i)⟩
theorem fcell2 {α : Type} {n m : Nat} {p : Nat → Nat → α → Prop} [Inhabited α] (h : ∀ i j, i < n → j < m → ∃ u, p i j u) : ∃ f : Nat → Nat → α, ∀ i j, i < n → j < m → p i j (f i j) := by
  have h' : ∀ i j, ∃ u, i < n → j < m → p i j u := fun i j => by
    by_cases hi : i < n
    · by_cases hj : j < m
      · obtain ⟨u, hu⟩ := h i j hi hj; exact ⟨u, fun _ _ => hu⟩
      · exact ⟨default, fun _ hh => absurd hh hj⟩
    · exact ⟨default, fun hh => absurd hh hi⟩
  exact ⟨fun i j => Classical.choose (h' i j), fun i j => Classical.choose_spec (h' i j)⟩

theorem roS_rep (hi : Inv fr k μ w) (D : Nat → Prop) : ∀ (d : Nat) {v : Value} {x : PV}, RepV w (Cold fr k μ) μ v x → (∀ t ∈ deS d k x, D t) → Rep0 w (Rd fr k μ D) v (roS d k x) := by
  have base : ∀ {v : Value} {x : PV}, Rep0 w (Cold fr k μ) v x → Rep0 w (Rd fr k μ D) v x := fun h => h.mono (fun a v hc hv => ⟨.inl hc, hv⟩)
  intro d
  induction d with
  | zero =>
    intro v x h _
    cases h with
    | base _ _ h => cases x <;> first | exact base h | exact .any _
    | und x => exact .any _
    | fn f cs xs hl h => exact .any _
    | agg cs xs hl h => exact .any _
    | tup cs xs hl h => exact .any _
    | ref t sz lo n v hu hn hat => exact .any _
    | ptr t off v hu hn hat => exact .any _
    | ep t sz i off v hu hn hat => exact .any _
    | mp t v hu hn hat => exact .any _
  | succ d ih =>
    intro v x h hD
    have many : ∀ {cs : Array Value} {xs : List PV}, cs.size = xs.length → (∀ (i : Nat) (v : Value) (x : PV), cs[i]? = some v → xs[i]? = some x → RepV w (Cold fr k μ) μ v x) → (∀ t ∈ xs.flatMap (deS d k), D t) →
        cs.size = (xs.map (roS d k)).length ∧ ∀ (i : Nat) (v : Value) (x : PV), cs[i]? = some v → (xs.map (roS d k))[i]? = some x → Rep0 w (Rd fr k μ D) v x := by
      intro cs xs hl h hd
      refine ⟨by simpa using hl, fun i v x hv hx => ?_⟩
      rw [List.getElem?_map] at hx
      cases hxi : xs[i]? with
      | none => simp [hxi] at hx
      | some y =>
        simp only [hxi, Option.map_some] at hx
        cases hx
        exact ih (h i v y hv hxi) (fun t ht => hd t (List.mem_flatMap.2 ⟨y, List.mem_of_getElem? hxi, ht⟩))
    -- a variable's cells behind an address
    have box : ∀ {t b o off : Nat} {tk : Tok} {xs : List PV}, D t → k t = .live tk → μ t = some (.at b) → o + xs.length ≤ tk.size → (∀ (j : Nat) (x : PV), xs[j]? = some x → ∃ u, w.cell? ⟨b, o + j, none⟩ = some u ∧ RepV w (Cold fr k μ) μ u x) →
        (∀ t ∈ xs.flatMap (deS d k), D t) → Rep0 w (Rd fr k μ D) (.pointer (some ⟨b, o + off, none⟩)) (.pro (xs.map (roS d k)) off) := by
      intro t b o off tk xs hDt hk hm hsz hc hd
      obtain ⟨f, hf⟩ := fcell (n := xs.length) (p := fun j u => w.cell? ⟨b, o + j, none⟩ = some u ∧ ∀ x, xs[j]? = some x → RepV w (Cold fr k μ) μ u x) (fun j hj => by
        have hx : xs[j]? = some xs[j] := List.getElem?_eq_getElem hj
        obtain ⟨u, hu, hr⟩ := hc j _ hx
        exact ⟨u, hu, fun x hx' => by rw [hx] at hx'; cases hx'; exact hr⟩)
      refine .pro b o off _ f (fun j hj => (hf j (by simpa using hj)).1) (fun j hj => .inr ⟨t, tk, b, hDt, hk, hm, rfl, ?_⟩) (fun j x hx => ?_)
      · simp only [List.length_map] at hj; simp only; omega
      · rw [List.getElem?_map] at hx
        cases hxi : xs[j]? with
        | none => simp [hxi] at hx
        | some y =>
          simp only [hxi, Option.map_some] at hx
          cases hx
          obtain ⟨hj, _⟩ := List.getElem?_eq_some_iff.1 hxi
          exact ih ((hf j hj).2 y hxi) (fun t ht => hd t (List.mem_flatMap.2 ⟨y, List.mem_of_getElem? hxi, ht⟩))
    by_cases hx : ∃ xs, x = .agg xs
    · obtain ⟨xs, rfl⟩ := hx
      obtain ⟨cs, rfl, hl, hr⟩ := h.agg_inv
      obtain ⟨a, b⟩ := many hl hr hD
      exact .agg _ _ a b
    by_cases hx2 : ∃ xs, x = .tup xs
    · obtain ⟨xs, rfl⟩ := hx2
      obtain ⟨cs, rfl, hl, hr⟩ := h.tup_inv
      obtain ⟨a, b⟩ := many hl hr hD
      exact .tup _ _ a b
    by_cases hx3 : ∃ f xs, x = .fn f xs
    · obtain ⟨f, xs, rfl⟩ := hx3
      obtain ⟨cs, rfl, hl, hr⟩ := h.fn_inv
      obtain ⟨a, b⟩ := many hl hr hD
      exact .fn _ _ _ a b
    cases h with
    | base _ _ h =>
      cases x <;> first | exact base h | exact .any _ | exact absurd ⟨_, rfl⟩ hx | exact absurd ⟨_, rfl⟩ hx2 | exact absurd ⟨_, _, rfl⟩ hx3 | (cases h; exact .sl0 _ _) | (cases h; done)
    | und x => exact .any _
    | fn f cs xs hl h => exact absurd ⟨_, _, rfl⟩ hx3
    | agg cs xs hl h => exact absurd ⟨_, rfl⟩ hx
    | tup cs xs hl h => exact absurd ⟨_, rfl⟩ hx2
    | ref t sz lo n v hu hn hat =>
      simp only [roS]
      cases hs : srcs k (.ref t sz lo n) with
      | none => exact .any _
      | some es =>
        have hs0 := hs
        simp only [srcs] at hs
        split at hs
        · rename_i e sz' es0 wr hk
          split at hs
          · rename_i hc
            obtain ⟨rfl, hle⟩ := hc
            cases hs
            obtain ⟨p, hp, ⟨hpos, hall⟩, hrow⟩ := hi.live t _ hk
            have hlen : ((es0.drop lo).take n).length = n := by simp; omega
            have hsz : ∀ e ∈ (es0.drop lo).take n, e.length = sz := fun e he => hall e (List.mem_of_mem_drop (List.mem_of_mem_take he))
            obtain ⟨A, c, rfl, hcell⟩ := srcs_rep hi hsz (.ref t sz lo n v hu hn hat) hs0
            by_cases hn0 : n = 0
            · subst hn0
              simp only [List.take_zero, List.map_nil, List.length_nil]
              exact .sl0 _ _
            · have hne : (es0.drop lo).take n ≠ [] := by intro h; rw [h] at hlen; simp at hlen; omega
              obtain ⟨b', o, hAA, hcell2⟩ := hcell hne
              subst hAA
              have hnn : μ t ≠ some .nil := fun h => by obtain ⟨_, h2, _⟩ := hn h; exact hn0 h2
              obtain ⟨b, hb⟩ := live_at hi (by simp [isLive, hk]) hnn
              obtain ⟨A', c2, hv, hnc, hA, hcap⟩ := hat b hb
              have hA' := hA.resolve_left (by omega)
              subst hA'
              simp only [Value.slice.injEq, Option.some.injEq, Addr.mk.injEq, and_true] at hv
              obtain ⟨⟨hb2, ho2⟩, hnl, hc2⟩ := hv
              have hb3 : b = b' := hb2.symm
              subst hb3
              have ho3 : lo * sz = o := ho2.symm
              subst ho3
              obtain ⟨f, hf⟩ := fcell2 (n := ((es0.drop lo).take n).length) (m := sz) (p := fun i j u => w.cell? ⟨b, lo * sz + i * sz + j, none⟩ = some u ∧ ∀ e x, ((es0.drop lo).take n)[i]? = some e → e[j]? = some x → RepV w (Cold fr k μ) μ u x) (fun i j hi' hj => by
                have he : ((es0.drop lo).take n)[i]? = some (((es0.drop lo).take n)[i]) := List.getElem?_eq_getElem hi'
                have hel := hsz _ (List.getElem_mem hi')
                have hx : (((es0.drop lo).take n)[i])[j]? = some ((((es0.drop lo).take n)[i])[j]'(by omega)) := List.getElem?_eq_getElem (by omega)
                obtain ⟨u, hu, hr⟩ := hcell2 i j _ _ he hx
                exact ⟨u, hu, fun e x he' hx' => by rw [he] at he'; cases he'; rw [hx] at hx'; cases hx'; exact hr⟩)
              refine .sl b (lo * sz) c _ sz _ f (by simp) hpos (by simpa using by omega) (fun e he => by obtain ⟨e', he', rfl⟩ := List.mem_map.1 he; simpa using hsz e' he') (fun i j hi' hj => (hf i j (by simpa using hi') hj).1) (fun i j hi' hj => .inr ⟨t, _, b, hD t (by simp [deS]), hk, hb, rfl, ?_⟩) (fun i j e x he hx => ?_)
              · simp only [List.length_map, hlen] at hi'
                simp only [Tok.size]
                have hmul : (lo + i + 1) * sz ≤ es0.length * sz := Nat.mul_le_mul_right _ (by omega)
                rw [Nat.add_mul, Nat.add_mul, Nat.one_mul] at hmul
                omega
              · rw [List.getElem?_map] at he
                cases hei : ((es0.drop lo).take n)[i]? with
                | none => simp [hei] at he
                | some e' =>
                  simp only [hei, Option.map_some] at he
                  cases he
                  rw [List.getElem?_map] at hx
                  cases hxj : e'[j]? with
                  | none => simp [hxj] at hx
                  | some y =>
                    simp only [hxj, Option.map_some] at hx
                    cases hx
                    obtain ⟨hil, _⟩ := List.getElem?_eq_some_iff.1 hei
                    obtain ⟨hjl, _⟩ := List.getElem?_eq_some_iff.1 hxj
                    rw [hsz e' (List.mem_of_getElem? hei)] at hjl
                    refine ih ((hf i j hil hjl).2 e' y hei hxj) (fun t' ht' => hD t' ?_)
                    simp only [deS, hs0, List.mem_cons]
                    exact .inr (List.mem_flatMap.2 ⟨e', List.mem_of_getElem? hei, List.mem_flatMap.2 ⟨y, List.mem_of_getElem? hxj, ht'⟩⟩)
          · cases hs
        · cases hs
    | ptr t off v hu hn hat =>
      simp only [roS]
      split
      · rename_i xs wr hk
        obtain ⟨p, hp, b, cs, e, rfl, hh, hs, hc⟩ := hi.live t _ hk
        obtain rfl := hat b hp
        have := box (t := t) (b := b) (o := 0) (off := off) (tk := .box xs wr) (xs := xs) (hD t (by simp [deS])) hk hp (by simp [Tok.size]) (fun j x hx => by
          obtain ⟨u, hu, hr⟩ := hc j x hx
          exact ⟨u, by rw [Nat.zero_add, cell_of_row w b j cs e _ hh]; exact hu, hr⟩) (fun t' ht' => hD t' (by simp only [deS, hk, List.mem_cons]; exact .inr ht'))
        rwa [Nat.zero_add] at this
      · exact .any _
    | ep t sz i off v hu hn hat =>
      simp only [roS]
      cases hv : view k (.ep t sz i off) with
      | none => exact .any _
      | some q =>
        obtain ⟨xs, off'⟩ := q
        have hv0 := hv
        simp only [view] at hv
        split at hv
        · rename_i e sz' es wr hk
          split at hv
          · rename_i hsz
            subst hsz
            split at hv
            · rename_i x0 hx0
              cases hv
              obtain ⟨p, hp, ⟨hpos, hall⟩, hrow⟩ := hi.live t _ hk
              rcases hrow with ⟨rfl, rfl⟩ | ⟨b, cs, c, rfl, hh, hs, hle, hm, hc⟩
              · exact absurd hp hn
              · obtain rfl := hat b hp
                obtain ⟨hil, _⟩ := List.getElem?_eq_some_iff.1 hx0
                have hxl := hall _ (List.mem_of_getElem? hx0)
                have hmul : (i + 1) * sz ≤ es.length * sz := Nat.mul_le_mul_right _ hil
                rw [Nat.add_mul, Nat.one_mul] at hmul
                exact box (t := t) (b := b) (o := i * sz) (off := off) (tk := .row e sz es wr) (xs := _) (hD t (by simp [deS])) hk hp (by simp only [Tok.size]; omega) (fun j x hx => by
                  obtain ⟨u, hu, hr⟩ := hc i j _ x hx0 hx
                  exact ⟨u, by rw [cell_of_row w b _ cs e _ hh]; exact hu, hr⟩) (fun t' ht' => hD t' (by simp only [deS, hv0, List.mem_cons]; exact .inr ht'))
            · cases hv
          · cases hv
        · cases hv
    | mp t v hu hn hat => exact .any _
end

end Go.V
/- The value logic, part 10: a call within a state. Nothing is assumed. -/
set_option linter.unusedVariables false
set_option linter.unusedSimpArgs false
namespace Go.V
open Go.RowKit (Below)

def PV.flat1 : PV → Bool
  | .int .. | .bool _ | .str _ | .nilp | .nilfn | .nili | .nils | .any => true
  | _ => false
def PV.flat2 : PV → Bool
  | .agg xs => xs.all PV.flat1
  | x => x.flat1
def PV.flat : PV → Bool
  | .tup xs => xs.all PV.flat2
  | x => x.flat2
theorem flat1_rep {w : World} {C C' : Addr → Prop} {v : Value} {x : PV} (h : Rep0 w C v x) (hf : x.flat1 = true) : Rep0 w C' v x := by
  cases h <;> first | exact .any _ | exact .int _ _ | exact .bool _ | exact .nilp | exact .nilfn | exact .nili | exact .nils | (rename_i h; exact .str _ _ h) | cases hf
theorem flat2_rep {w : World} {C C' : Addr → Prop} {v : Value} {x : PV} (h : Rep0 w C v x) (hf : x.flat2 = true) : Rep0 w C' v x := by
  cases x with
  | agg xs => cases h with | agg cs _ hl h => exact .agg cs _ hl (fun i v x hv hx => flat1_rep (h i v x hv hx) (List.all_eq_true.1 hf x (List.mem_of_getElem? hx)))
  | _ => exact flat1_rep h hf
theorem flat_rep {w : World} {C C' : Addr → Prop} {v : Value} {x : PV} (h : Rep0 w C v x) (hf : x.flat = true) : Rep0 w C' v x := by
  cases x with
  | tup xs => cases h with | tup cs _ hl h => exact .tup cs _ hl (fun i v x hv hx => flat2_rep (h i v x hv hx) (List.all_eq_true.1 hf x (List.mem_of_getElem? hx)))
  | _ => exact flat2_rep h hf

def TS.frz : TS → TS
  | .live (.box xs _) => .live (.box xs false)
  | .live (.row e sz es _) => .live (.row e sz es false)
  | x => x
/-- Names whose content is no longer written. -/
def frz (ts : List Nat) (k : Nat → TS) : Nat → TS := fun t => if t ∈ ts then (k t).frz else k t
theorem frz_nil (k : Nat → TS) : frz [] k = k := by funext t; simp [frz]
theorem frz_less (ts : List Nat) (k : Nat → TS) : Less k (frz ts k) := by
  intro t
  simp only [frz]
  split
  · cases hk : k t with
    | fresh => exact .inl rfl
    | dead => exact .inl rfl
    | live tk => cases tk with
      | box xs wr => exact .inr (.inr (.inl ⟨xs, wr, rfl, rfl⟩))
      | row e sz es wr => exact .inr (.inr (.inr ⟨e, sz, es, wr, rfl, rfl⟩))
      | map m => exact .inl rfl
      | arr e sz es => exact .inl rfl
  · exact .inl rfl

section
variable {P : Program} {fr : Fr} {μ μ' : Nat → Option Pl} {k k' : Nat → TS} {w w' : World}

/-- A call by contract. -/
theorem call_vf (hi : Inv fr k μ w) {f : FuncId} {xs : List PV} {vs : Array Value} {r : PV} (hl : vs.size = xs.length) (hr : ∀ (i : Nat) (v : Value) (x : PV), vs[i]? = some v → xs[i]? = some x → RepV w (Cold fr k μ) μ v x)
    (h : VF P f (xs.map (roS 4 k)) r) :
    Calls P f vs w fun e w' => ∃ v, e = .returned v ∧ Below w.heap.size w w' ∧ Rep0 w' (fun a => a.block < w.heap.size → Rd fr k μ (· ∈ xs.flatMap (deS 4 k)) a) v r := by
  refine h.2 w (Rd fr k μ (· ∈ xs.flatMap (deS 4 k))) vs (by simpa using hl) (fun i v x hv hx => ?_)
  rw [List.getElem?_map] at hx
  cases hxi : xs[i]? with
  | none => simp [hxi] at hx
  | some y =>
    simp only [hxi, Option.map_some] at hx
    cases hx
    exact roS_rep hi _ 4 (hr i v y hv hxi) (fun t ht => List.mem_flatMap.2 ⟨y, List.mem_of_getElem? hxi, ht⟩)
/-- What a call gave, with the names behind it. -/
theorem call_res (hi : Inv fr k μ w) (hb : Below w.heap.size w w') {D : List Nat} {v : Value} {r : PV} (h : Rep0 w' (fun a => a.block < w.heap.size → Rd fr k μ (· ∈ D) a) v r) :
    Rep0 w' (Cold fr (frz D k) (lessμ (frz D k) μ)) v r := by
  have hl := frz_less D k
  refine h.mono (fun a v hc hv => ⟨?_, hv⟩)
  by_cases ha : a.block < w.heap.size
  · rcases hc ha with hc | ⟨t, tk, b, hD, hk, hm, hab, ho⟩
    · -- cold stays cold
      refine ⟨hc.1, fun t tk b hk hm hb' => ?_⟩
      simp only [lessμ, hk] at hm
      rcases hl t with e | ⟨tk', _, e⟩ | ⟨cs, wr, e1, e2⟩ | ⟨e', sz, es, wr, e1, e2⟩
      · exact hc.2 t tk b (e ▸ hk) hm hb'
      · rw [e] at hk; cases hk
      · rw [e2] at hk; cases hk; exact ⟨rfl, (hc.2 t _ b e1 hm hb').2⟩
      · rw [e2] at hk; cases hk; exact ⟨rfl, (hc.2 t _ b e1 hm hb').2⟩
    · refine ⟨fun hlt => ?_, fun t' tk' b' hk' hm' hb' => ?_⟩
      · rcases hi.place t tk b hk hm with h1 | h1
        · exact .inl (hab ▸ h1)
        · omega
      · simp only [lessμ, hk'] at hm'
        have hlive : ∃ tk0, k t' = .live tk0 := by
          rcases hl t' with e | ⟨tk', _, e⟩ | ⟨cs, wr, e1, e2⟩ | ⟨e', sz, es, wr, e1, e2⟩
          · exact ⟨_, e ▸ hk'⟩
          · rw [e] at hk'; cases hk'
          · exact ⟨_, e1⟩
          · exact ⟨_, e1⟩
        obtain ⟨tk0, h0⟩ := hlive
        have : t' = t := hi.inj t' t tk0 tk b h0 hk (by rw [hm', ← hb', hab]) hm
        subst this
        simp only [frz] at hk'
        rw [if_pos hD, hk] at hk'
        cases tk with
        | box xs wr => cases hk'; exact ⟨rfl, ho⟩
        | row e sz es wr => cases hk'; exact ⟨rfl, ho⟩
        | map m => simp [Tok.size] at ho
        | arr e sz es => simp [Tok.size] at ho
  · refine ⟨fun hlt => ?_, fun t tk b hk hm hb' => ?_⟩
    · have := hi.size; omega
    · simp only [lessμ, hk] at hm
      have := hi.at_lt hm
      omega
theorem call_res0 (hi : Inv fr k μ w) (hb : Below w.heap.size w w') {v : Value} {r : PV} (h : Rep0 w' (fun a => a.block < w.heap.size → Rd fr k μ (· ∈ []) a) v r) : Rep0 w' (Cold fr k μ) v r := by
  refine h.mono (fun a v hc hv => ⟨?_, hv⟩)
  by_cases ha : a.block < w.heap.size
  · rcases hc ha with hc | ⟨t, tk, b, hD, _⟩
    · exact hc
    · cases hD
  · refine ⟨fun hlt => ?_, fun t tk b hk hm hb' => ?_⟩
    · have := hi.size; omega
    · have := hi.at_lt hm; omega
end

/-! ### Operations in a state -/
structure Fp where
  ins : List Nat
  rd : List Nat
  wr : List Nat
def slotOf : Operand → List Nat
  | .tmp t => [t]
  | _ => []
def slotsO : Option Operand → List Nat
  | some x => slotOf x
  | none => []
/-- One of two values. -/
def psel (t : Bool) (x y : PV) : PV := if t then x else y
/-- Names in a value. -/
def PV.nm1 : PV → List Nat
  | .ref t _ _ _ => [t]
  | .ptr t _ => [t]
  | .ep t _ _ _ => [t]
  | .mp t => [t]
  | _ => []
def PV.nm : PV → List Nat
  | .agg xs => xs.flatMap PV.nm1
  | .fn _ xs => xs.flatMap PV.nm1
  | .tup xs => xs.flatMap PV.nm1
  | x => x.nm1
/-- A length. -/
def vlen (P : Program) (k : Nat → TS) (t : TypeId) : PV → Option PV
  | .str s => if tyIs P t .string then some (.int .i64 s.length) else none
  | .sl es => if (tyElem P t).isSome then some (.int .i64 es.length) else none
  | .nils => if (tyElem P t).isSome then some (.int .i64 0) else none
  | .ref tk _ _ n => if (tyElem P t).isSome && isLive k tk then some (.int .i64 n) else none
  | _ => none
/-- How many elements a full row has. -/
def arrOf (k : Nat → TS) : PV → Option Nat
  | .ref t sz _ _ => match k t with
    | .live (.arr _ sz' es) => if sz = sz' then some es.length else none
    | _ => none
  | _ => none
/-- Bounds of a slice, up to the capacity 'c'. -/
def bndA (n c : Nat) : Option PV → Option PV → Option (Nat × Nat)
  | none, none => some (0, n)
  | some (.int _ i), none => if 0 ≤ i ∧ i ≤ n then some (i.toNat, n) else none
  | none, some (.int _ j) => if 0 ≤ j ∧ j ≤ c then some (0, j.toNat) else none
  | some (.int _ i), some (.int _ j) => if 0 ≤ j ∧ j ≤ c ∧ 0 ≤ i ∧ i ≤ j then some (i.toNat, j.toNat) else none
  | _, _ => none
def slaA (P : Program) (t : TypeId) (m : Nat) (x : PV) (lo hi : Option PV) : Option PV := match x, tyElem P t with
  | .ref tk sz l n, some (_, sz') => if sz = sz' ∧ l ≤ m then match bndA n (m - l) lo hi with
    | some (i, j) => some (.ref tk sz (l + i) (j - i))
    | none => none
    else none
  | _, _ => none
def slK (P : Program) (k : Nat → TS) (t : TypeId) (z : PV) (lo hi : Option PV) : Option PV := match arrOf k z with
  | some m => slaA P t m z lo hi
  | none => if refLive k z then sla P t z lo hi else none
/-- What an operation that neither makes nor writes memory comes to. -/
def vop (P : Program) (σ : St) (op : Op) : Option PV :=
  match op with
  | .move x => some (σ.ev x).strip
  | .assign x => some (σ.ev x).strip
  | .pick c a b => match (σ.ev c).strip with
    | .bool t => some (psel t (σ.ev a).strip (σ.ev b).strip)
    | _ => none
  | .binOp op t x y _ => bin P op t (σ.ev x).strip (σ.ev y).strip
  | .unOp op _ x => un op (σ.ev x).strip
  | .convert s t x => conv P s t (σ.ev x).strip
  | .extract x i => ext (σ.ev x).strip i
  | .index t x i => idx P t (σ.ev x).strip (σ.ev i).strip
  | .fieldAddr s x f => if ptLive σ.k (σ.ev x).strip then fa P s f (σ.ev x).strip else none
  | .indexAddr t x i => if refLive σ.k (σ.ev x).strip then ia P t (σ.ev x).strip (σ.ev i).strip else none
  | .load t x => ld P σ.k t (σ.ev x).strip
  | .slice t x lo hi none => match (σ.ev x).strip with
    | .str s => cut P t (.str s) (lo.map fun y => (σ.ev y).strip) (hi.map fun y => (σ.ev y).strip)
    | z => slK P σ.k t z (lo.map fun y => (σ.ev y).strip) (hi.map fun y => (σ.ev y).strip)
  | .build t ps => if (ps.toList.all fun p => ((σ.ev p.2).strip).oks σ.k) then bld P t (ps.toList.map fun p => (p.1, (σ.ev p.2).strip)) else none
  | .makeFunc f first cs => match f, first.toList with
    | .func f, [] => some (.fn f (cs.toList.map fun x => (σ.ev x).strip))
    | _, _ => none
  | .call c => match c.callee, c.args.toList, c.argTypes.toList with
    | .builtin .len, [x], [t] => vlen P σ.k t (σ.ev x).strip
    | _, _, _ => none
  | _ => none
/-- What must be there for it. -/
def vgood (σ : St) (op : Op) : Bool :=
  match op with
  | .pick c a b => (σ.ev c).ok && (match (σ.ev c).strip with | .bool t => if t then (σ.ev a).ok else (σ.ev b).ok | _ => false)
  | op => op.operands.toList.all fun x => (σ.ev x).ok

end Go.V
/- The value logic, part Y: contracts that take and give rows. Nothing is assumed. -/
set_option linter.unusedVariables false
set_option linter.unusedSimpArgs false
namespace Go.V
open Go.RowKit (Below)

/-- The contract of a function that is lent rows ('K0') and gives rows ('K1'): all other memory is as it was. -/
def VX (P : Program) (f : FuncId) (K0 : List (Nat × Tok)) (args : List PV) (r : PV) (K1 : List (Nat × Tok)) : Prop :=
  fnOk P f = true ∧ ∀ (w : World) (S : Addr → Prop) (lent : List Nat) (μ : Nat → Option Pl) (vs : Array Value), Inv ⟨w, S, lent⟩ (mkK K0) μ w → vs.size = args.length →
    (∀ (i : Nat) (v : Value) (x : PV), vs[i]? = some v → args[i]? = some x → RepV w (Cold ⟨w, S, lent⟩ (mkK K0) μ) μ v x) →
    Calls P f vs w fun e w' => ∃ v μ', e = .returned v ∧ Inv ⟨w, S, lent⟩ (mkK K1) μ' w' ∧ RepV w' (Cold ⟨w, S, lent⟩ (mkK K1) μ') μ' v r

/-- The names that are lent. -/
def Nms.lo (K : Nms) : List Nat := K.filterMap (·.2.1)
/-- Whose content may be written. -/
def Tok.wrs : Tok → Bool
  | .box _ wr => wr
  | .row _ _ _ wr => wr
  | .map _ => true
  | .arr .. => true
def Nms.wrs (K : Nms) : Bool := K.all fun p => p.2.2.wrs
/-- What is handed over: lent, or to be read. -/
def argsX (M : Nms) (k : Nat → TS) (D : List Nat) : List PV → List PV → Prop
  | [], [] => True
  | x :: xs, y :: ys => (ren M y = some x ∨ (y = roS 4 k x ∧ ∀ t ∈ deS 4 k x, t ∈ D)) ∧ argsX M k D xs ys
  | _, _ => False
/-- The names after such a call. -/
def aft (K : Nms) (D : List Nat) (K1 : List (Nat × Tok)) (k : Nat → TS) : Nat → TS := fun t => match mkK K1 t with
  | .live tk => .live tk
  | _ => if t ∈ K.lo then .dead else frz D k t
def aftμ (K : Nms) (K1 : List (Nat × Tok)) (μ' μ : Nat → Option Pl) : Nat → Option Pl := fun t => match mkK K1 t with
  | .live _ => μ' t
  | _ => if t ∈ K.lo then some .dead else μ t
/-- The blocks that are lent. -/
def Nms.blk (K : Nms) (μ : Nat → Option Pl) : List Nat := K.lo.filterMap fun o => match μ o with | some (.at b) => some b | _ => none
def SX (fr : Fr) (k : Nat → TS) (μ : Nat → Option Pl) (D : List Nat) (a : Addr) : Prop :=
  (a.block < fr.w0.heap.size → a.block ∈ fr.lent ∨ fr.S a) ∧ ∀ t tk b, k t = .live tk → μ t = some (.at b) → a.block = b → tk.cold a.off ∨ (t ∈ D ∧ a.off < tk.size)

section
variable {P : Program} {fr : Fr} {μ μ' : Nat → Option Pl} {k : Nat → TS} {w w' : World} {K : Nms} {D : List Nat} {K1 : List (Nat × Tok)}
theorem mkK_live {l : List (Nat × Tok)} {t : Nat} : (∃ tk, mkK l t = .live tk) ∨ mkK l t = .fresh := by
  induction l with
  | nil => exact .inr rfl
  | cons p l ih =>
    obtain ⟨a, b⟩ := p
    simp only [mkK]
    split
    · exact .inl ⟨_, rfl⟩
    · exact ih
theorem lo_spec (hK : K.ok k) (hw : K.wrs = true) {o : Nat} (h : o ∈ K.lo) : ∃ T tk tk0, (T, some o, tk) ∈ K ∧ k o = .live tk0 ∧ renT K tk = some tk0 ∧ ∀ off, ¬ tk0.cold off := by
  obtain ⟨p, hp, ho⟩ := List.mem_filterMap.1 h
  obtain ⟨T, s, tk⟩ := p
  simp only at ho
  subst ho
  obtain ⟨tk0, h0, h1⟩ := hK _ hp
  refine ⟨T, tk, tk0, hp, h0, h1, fun off hc => ?_⟩
  have hwr := List.all_eq_true.1 hw _ hp
  have hc' := renT_cold h1 off hc
  cases tk <;> simp_all [Tok.cold, Tok.wrs]
theorem blk_spec (hK : K.ok k) (hw : K.wrs = true) {b : Nat} (h : b ∈ K.blk μ) : ∃ o, o ∈ K.lo ∧ μ o = some (.at b) ∧ ∃ tk0, k o = .live tk0 ∧ ∀ off, ¬ tk0.cold off := by
  obtain ⟨o, ho, hb⟩ := List.mem_filterMap.1 h
  split at hb
  · rename_i b' hm
    cases hb
    obtain ⟨T, tk, tk0, _, h0, _, h2⟩ := lo_spec hK hw ho
    exact ⟨o, ho, hm, tk0, h0, h2⟩
  · cases hb
theorem mem_blk {o b : Nat} (ho : o ∈ K.lo) (hm : μ o = some (.at b)) : b ∈ K.blk μ := List.mem_filterMap.2 ⟨o, ho, by rw [hm]⟩

/-- What the callee sees. -/
theorem vx_in (hi : Inv fr k μ w) (hK : K.ok k) (hj : K.inj = true) (hw : K.wrs = true) (hD : ∀ t ∈ D, t ∉ K.lo) :
    Inv ⟨w, SX fr k μ D, K.blk μ⟩ K.k (K.μ μ) w ∧
    (∀ a v, Rd fr k μ (· ∈ D) a → w.cell? a = some v → Cold ⟨w, SX fr k μ D, K.blk μ⟩ K.k (K.μ μ) a) := by
  have hcold : ∀ a, Rd fr k μ (· ∈ D) a → Cold ⟨w, SX fr k μ D, K.blk μ⟩ K.k (K.μ μ) a := by
    intro a ha
    have hS : SX fr k μ D a := by
      rcases ha with h | ⟨t, tk, b, hDt, hk, hm, hb, hs⟩
      · exact ⟨h.1, fun t tk b hk hm hb => .inl (h.2 t tk b hk hm hb)⟩
      · refine ⟨fun hlt => ?_, fun t' tk' b' hk' hm' hb' => ?_⟩
        · rcases hi.place t tk b hk hm with h | h
          · exact .inl (hb ▸ h)
          · omega
        · have : t' = t := hi.inj t' t tk' tk b hk' hk (by rw [hm', ← hb', hb]) hm
          subst this
          rw [hk] at hk'; cases hk'
          exact .inr ⟨hDt, hs⟩
    refine ⟨fun _ => .inr hS, fun t tk b hk hm hb => ?_⟩
    obtain ⟨s, hs, hmem⟩ := Nms.tk_src (Nms.k_live hk)
    have hok := hK _ hmem
    simp only [Nms.μ, hs] at hm
    cases s with
    | none => cases hm
    | some o =>
      obtain ⟨tk0, h0, h1⟩ := hok
      have ho : o ∈ K.lo := List.mem_filterMap.2 ⟨_, hmem, rfl⟩
      rcases hS.2 o tk0 b h0 hm hb with hc | ⟨hDo, _⟩
      · exact renT_cold h1 _ hc
      · exact absurd ho (hD o hDo)
  have hc : ∀ a v, Cold fr k μ a → w.cell? a = some v → Cold ⟨w, SX fr k μ D, K.blk μ⟩ K.k (K.μ μ) a := fun a v ha _ => hcold a (.inl ha)
  have hin := Nms.inv hi hK hj
  refine ⟨⟨rfl, rfl, rfl, Nat.le_refl _, fun _ _ _ => rfl, hin.used, fun t tk hk => ?_, fun t tk b hk hm => ?_, hin.inj, hin.dead⟩, fun a v ha _ => hcold a ha⟩
  · obtain ⟨s, hs, hmem⟩ := Nms.tk_src (Nms.k_live hk)
    have hok := hK _ hmem
    cases s with
    | none =>
      obtain ⟨e, sz, rfl, hpos⟩ := hok
      exact ⟨.nil, by simp [Nms.μ, hs], ⟨hpos, by simp⟩, .inl ⟨rfl, rfl⟩⟩
    | some o =>
      obtain ⟨tk0, h0, h1⟩ := hok
      obtain ⟨p, hp, hrep⟩ := hi.live o tk0 h0
      exact ⟨p, by simp [Nms.μ, hs, hp], renT_rep hc h1 hrep⟩
  · obtain ⟨s, hs, hmem⟩ := Nms.tk_src (Nms.k_live hk)
    have ho : ∀ o, s = some o → o ∈ K.lo := fun o e => List.mem_filterMap.2 ⟨_, hmem, e⟩
    simp only [Nms.μ, hs] at hm
    cases s with
    | none => cases hm
    | some o => exact .inl (mem_blk (ho o rfl) hm)

theorem argsX_len {M : Nms} : ∀ {xs as : List PV}, argsX M k D xs as → xs.length = as.length ∧ ∀ (i : Nat) (x y : PV), xs[i]? = some x → as[i]? = some y → ren M y = some x ∨ (y = roS 4 k x ∧ ∀ t ∈ deS 4 k x, t ∈ D)
  | [], [], _ => ⟨rfl, by simp⟩
  | x :: xs, y :: ys, h => by
    obtain ⟨h1, h2⟩ := argsX_len h.2
    refine ⟨by simp [h1], fun i a b ha hb => ?_⟩
    cases i with
    | zero => simp at ha hb; subst ha; subst hb; exact h.1
    | succ i => exact h2 i a b (by simpa using ha) (by simpa using hb)
  | [], _ :: _, h => h.elim
  | _ :: _, [], h => h.elim
/-- A call by such a contract. -/
theorem call_vx {f : FuncId} {vs : Array Value} {xs as : List PV} {r : PV} (hi : Inv fr k μ w) (hl : vs.size = xs.length) (hr : ∀ (i : Nat) (v : Value) (x : PV), vs[i]? = some v → xs[i]? = some x → RepV w (Cold fr k μ) μ v x)
    (ha : argsX K k D xs as) (hK : K.ok k) (hj : K.inj = true) (hw : K.wrs = true) (hD : ∀ t ∈ D, t ∉ K.lo) (hv : VX P f (K.map fun p => (p.1, p.2.2)) as r K1) :
    Calls P f vs w fun e w' => ∃ v μ', e = .returned v ∧ Inv ⟨w, SX fr k μ D, K.blk μ⟩ (mkK K1) μ' w' ∧ RepV w' (Cold ⟨w, SX fr k μ D, K.blk μ⟩ (mkK K1) μ') μ' v r := by
  obtain ⟨h1, h2⟩ := vx_in hi hK hj hw hD
  obtain ⟨hlen, hal⟩ := argsX_len ha
  rw [Nms.k_mk] at h1 h2
  refine hv.2 w _ _ (K.μ μ) vs h1 (by omega) (fun i v y hv hy => ?_)
  obtain ⟨hlt, _⟩ := List.getElem?_eq_some_iff.1 hy
  have hx : xs[i]? = some (xs[i]'(by omega)) := List.getElem?_eq_getElem _
  have hrx := hr i v _ hv hx
  rcases hal i _ y hx hy with h | ⟨rfl, h⟩
  · exact ren_rep (fun a v ha hc => h2 a v (.inl ha) hc) h hrx
  · exact .base _ _ ((roS_rep hi (· ∈ D) 4 hrx h).mono fun a v ha hc => ⟨h2 a v ha hc, hc⟩)

/-- What the caller sees afterwards. -/
theorem vx_out (hi : Inv fr k μ w) (hK : K.ok k) (hw : K.wrs = true) (hf : ∀ t tk, mkK K1 t = .live tk → k t = .fresh) (hin : Inv ⟨w, SX fr k μ D, K.blk μ⟩ (mkK K1) μ' w') :
    Inv fr (aft K D K1 k) (aftμ K K1 μ' μ) w' ∧ Keeps w w' (Cold fr k μ) (Cold fr (aft K D K1 k) (aftμ K K1 μ' μ)) μ (aftμ K K1 μ' μ) ∧
    ∀ v r, RepV w' (Cold ⟨w, SX fr k μ D, K.blk μ⟩ (mkK K1) μ') μ' v r → RepV w' (Cold fr (aft K D K1 k) (aftμ K K1 μ' μ)) (aftμ K K1 μ' μ) v r := by
  have hblk : ∀ b, b ∈ K.blk μ → b ∈ fr.lent ∨ fr.w0.heap.size ≤ b := fun b hb => by
    obtain ⟨o, _, hm, tk0, h0, _⟩ := blk_spec hK hw hb
    exact hi.place o tk0 b h0 hm
  have frzk : ∀ {t : Nat} {tk : Tok}, frz D k t = .live tk → ∃ tk0, k t = .live tk0 ∧ (∀ off, tk0.cold off → tk.cold off) ∧ (t ∈ D → ∀ off, off < tk0.size → tk.cold off) := by
    intro t tk hk
    simp only [frz] at hk
    split at hk
    · cases h : k t with
      | fresh => rw [h] at hk; cases hk
      | dead => rw [h] at hk; cases hk
      | live tk0 =>
        rw [h] at hk
        cases tk0 with
        | box xs wr => cases hk; exact ⟨_, rfl, fun off hc => ⟨rfl, hc.2⟩, fun _ off ho => ⟨rfl, ho⟩⟩
        | row e sz es wr => cases hk; exact ⟨_, rfl, fun off hc => ⟨rfl, hc.2⟩, fun _ off ho => ⟨rfl, ho⟩⟩
        | map m => cases hk; exact ⟨_, rfl, fun off hc => hc, fun _ off ho => by simp [Tok.size] at ho⟩
        | arr e sz es => cases hk; exact ⟨_, rfl, fun off hc => hc, fun _ off ho => by simp [Tok.size] at ho⟩
    · rename_i hD
      exact ⟨tk, hk, fun off hc => hc, fun h => absurd h hD⟩
  have split1 : ∀ {t : Nat} {tk : Tok}, aft K D K1 k t = .live tk → (mkK K1 t = .live tk ∧ aftμ K K1 μ' μ t = μ' t) ∨ (mkK K1 t = .fresh ∧ t ∉ K.lo ∧ frz D k t = .live tk ∧ aftμ K K1 μ' μ t = μ t) := by
    intro t tk h
    unfold aft at h
    rcases mkK_live (l := K1) (t := t) with ⟨tk1, h1⟩ | h1
    · rw [h1] at h; cases h; exact .inl ⟨h1, by simp only [aftμ, h1]⟩
    · rw [h1] at h
      simp only at h
      split at h
      · cases h
      · rename_i hlo; exact .inr ⟨h1, hlo, h, by simp only [aftμ, h1, if_neg hlo]⟩
  have hcold : ∀ a v, Cold fr k μ a → w.cell? a = some v → Cold fr (aft K D K1 k) (aftμ K K1 μ' μ) a ∧ a.block ∉ K.blk μ ∧ a.block < w.heap.size := by
    intro a v hc hv
    have hlt := World.block_lt_of_cell? w a hv
    have hnb : a.block ∉ K.blk μ := fun hb => by
      obtain ⟨o, _, hm, tk0, h0, hnc⟩ := blk_spec hK hw hb
      exact hnc _ (hc.2 o tk0 _ h0 hm rfl)
    refine ⟨⟨hc.1, fun t tk b hk hm hb => ?_⟩, hnb, hlt⟩
    rcases split1 hk with ⟨h1, h2⟩ | ⟨h1, h2, h3, h4⟩
    · rw [h2] at hm
      rcases hin.place t tk b h1 hm with hb' | hb'
      · exact absurd (hb ▸ hb') hnb
      · have : w.heap.size ≤ b := hb'
        omega
    · rw [h4] at hm
      obtain ⟨tk0, h0, hc0, _⟩ := frzk h3
      exact hc0 _ (hc.2 t tk0 b h0 hm hb)
  have hheap : ∀ b, b < w.heap.size → b ∉ K.blk μ → w'.heap[b]? = w.heap[b]? := fun b h1 h2 => hin.old b h1 h2
  have hcell : ∀ a : Addr, a.block < w.heap.size → a.block ∉ K.blk μ → w'.cell? a = w.cell? a := fun a h1 h2 => by
    have := hheap a.block h1 h2
    simp only [World.cell?, this]
  have nolent : ∀ {t : Nat} {tk0 : Tok} {b : Nat}, k t = .live tk0 → t ∉ K.lo → μ t = some (.at b) → b ∉ K.blk μ := fun {t tk0 b} hk hlo hm hb => by
    obtain ⟨o, ho, hmo, tk1, h1, _⟩ := blk_spec hK hw hb
    exact hlo (hi.inj t o tk0 tk1 b hk h1 hm hmo ▸ ho)
  have keeps : Keeps w w' (Cold fr k μ) (Cold fr (aft K D K1 k) (aftμ K K1 μ' μ)) μ (aftμ K K1 μ' μ) := by
    refine ⟨fun a v hc hv => ?_, fun t ht => ?_, fun t p ht hm hp => ?_, fun t b cs e fz hm hm' hb => ?_⟩
    · obtain ⟨h1, h2, h3⟩ := hcold a v hc hv
      exact ⟨h1, (hcell a h3 h2).trans hv⟩
    · unfold aftμ
      rcases mkK_live (l := K1) (t := t) with ⟨tk1, h1⟩ | h1
      · rw [h1]; exact fun h => by have := (hin.used t).1 h; rw [h1] at this; cases this
      · rw [h1]; simp only; split
        · simp
        · exact ht
    · unfold aftμ at hm
      rcases mkK_live (l := K1) (t := t) with ⟨tk1, h1⟩ | h1
      · exact absurd ((hi.used t).2 (hf t tk1 h1)) ht
      · rw [h1] at hm; simp only at hm; split at hm
        · cases hm; exact absurd rfl hp
        · exact hm
    · rcases mkK_live (l := K1) (t := t) with ⟨tk1, h1⟩ | h1
      · have := (hi.used t).2 (hf t tk1 h1); rw [this] at hm; cases hm
      · unfold aftμ at hm'
        rw [h1] at hm'; simp only at hm'; split at hm'
        · cases hm'
        · rename_i hlo
          obtain ⟨tk0, h0, _⟩ := hi.at_live hm
          have hb2 := hheap b (hi.at_lt hm) (nolent h0 hlo hm)
          rw [hb2] at hb
          exact ⟨cs, e, fz, hb, rfl⟩
  have res : ∀ v r, RepV w' (Cold ⟨w, SX fr k μ D, K.blk μ⟩ (mkK K1) μ') μ' v r → RepV w' (Cold fr (aft K D K1 k) (aftμ K K1 μ' μ)) (aftμ K K1 μ' μ) v r := by
    have kp : Keeps w' w' (Cold ⟨w, SX fr k μ D, K.blk μ⟩ (mkK K1) μ') (Cold fr (aft K D K1 k) (aftμ K K1 μ' μ)) μ' (aftμ K K1 μ' μ) := by
      have k1of : ∀ t, μ' t ≠ none → ∃ tk, mkK K1 t = .live tk := fun t ht => by
        rcases mkK_live (l := K1) (t := t) with h | h
        · exact h
        · exact absurd ((hin.used t).2 h) ht
      refine ⟨fun a v hc hv => ⟨?_, hv⟩, fun t ht => ?_, fun t p ht hm hp => ?_, fun t b cs e fz hm hm' hb => ⟨cs, e, fz, hb, rfl⟩⟩
      · have cond1 : a.block < fr.w0.heap.size → a.block ∈ fr.lent ∨ fr.S a := fun hlt => by
          have hlt2 : a.block < w.heap.size := Nat.lt_of_lt_of_le hlt hi.size
          rcases hc.1 hlt2 with h | h
          · rcases hblk _ h with h | h
            · exact .inl h
            · omega
          · exact h.1 hlt
        refine ⟨cond1, fun t tk b hk hm hb => ?_⟩
        rcases split1 hk with ⟨h1, h2⟩ | ⟨h1, h2, h3, h4⟩
        · rw [h2] at hm; exact hc.2 t tk b h1 hm hb
        · rw [h4] at hm
          obtain ⟨tk0, h0, hc0, hcD⟩ := frzk h3
          have hblt := hi.at_lt hm
          rcases hc.1 (by rw [hb]; exact hblt) with h | h
          · exact absurd (hb ▸ h) (nolent h0 h2 hm)
          · rcases h.2 t tk0 b h0 hm hb with h | ⟨h, h'⟩
            · exact hc0 _ h
            · exact hcD h _ h'
      · obtain ⟨tk, h⟩ := k1of t ht
        simp only [aftμ, h]; exact ht
      · obtain ⟨tk, h⟩ := k1of t ht
        simp only [aftμ, h] at hm; exact hm
    exact fun v r h => h.mono kp
  refine ⟨⟨hin.os.trans hi.os, hin.tape.trans hi.tape, hin.output.trans hi.output, Nat.le_trans hi.size hin.size, fun b hb hl => ?_, fun t => ?_, fun t tk hk => ?_, fun t tk b hk hm => ?_, fun t t' tk tk' b hk hk' hm hm' => ?_, fun t hk => ?_⟩, keeps, res⟩
  · have hlt := Nat.lt_of_lt_of_le hb hi.size
    rw [hheap b hlt (fun h => by rcases hblk b h with h | h; exact hl h; omega)]
    exact hi.old b hb hl
  · unfold aft aftμ
    rcases mkK_live (l := K1) (t := t) with ⟨tk1, h1⟩ | h1
    · rw [h1]; simp only
      constructor
      · intro h; have := (hin.used t).1 h; rw [h1] at this; cases this
      · intro h; cases h
    · rw [h1]; simp only
      split
      · constructor <;> intro h <;> cases h
      · rw [hi.used t]
        simp only [frz]
        split
        · cases h : k t with
          | fresh => simp [TS.frz]
          | dead => simp [TS.frz]
          | live tk => cases tk <;> simp [TS.frz]
        · rfl
  · rcases split1 hk with ⟨h1, h2⟩ | ⟨h1, h2, h3, h4⟩
    · obtain ⟨p, hp, hr⟩ := hin.live t tk h1
      refine ⟨p, h2.trans hp, ?_⟩
      -- the callee's rows, in the caller's names
      cases tk with
      | box xs wr =>
        obtain ⟨b, cs, e, q1, q2, q3, q4⟩ := hr
        exact ⟨b, cs, e, q1, q2, q3, fun i x hx => let ⟨v, hv, hr⟩ := q4 i x hx; ⟨v, hv, res v x hr⟩⟩
      | row e sz es wr =>
        refine ⟨hr.1, hr.2.imp id ?_⟩
        rintro ⟨b, cs, c, q1, q2, q3, q4, q5, q6⟩
        exact ⟨b, cs, c, q1, q2, q3, q4, q5, fun i j x y hx hy => let ⟨v, hv, hr⟩ := q6 i j x y hx hy; ⟨v, hv, res v y hr⟩⟩
      | map m =>
        obtain ⟨b, es, cl, q1, q2, q3, q4⟩ := hr
        exact ⟨b, es, cl, q1, q2, q3, fun i x hx => let ⟨en, he, h1, h2⟩ := q4 i x hx; ⟨en, he, res _ _ h1, res _ _ h2⟩⟩
      | arr e sz es =>
        obtain ⟨h0, b, cs, q1, q2, q3, q4, q6⟩ := hr
        exact ⟨h0, b, cs, q1, q2, q3, q4, fun i j x y hx hy => let ⟨v, hv, hr⟩ := q6 i j x y hx hy; ⟨v, hv, res v y hr⟩⟩
    · obtain ⟨tk0, h0, _, _⟩ := frzk h3
      obtain ⟨p, hp, hr⟩ := hi.live t tk0 h0
      refine ⟨p, h4.trans hp, ?_⟩
      have hb : ∀ b, p = .at b → w'.heap[b]? = w.heap[b]? := fun b e => by subst e; exact hheap b (hi.at_lt hp) (nolent h0 h2 hp)
      have hr' := hr.mono keeps hb
      -- frozen or not
      simp only [frz] at h3
      split at h3
      · rw [h0] at h3
        cases tk0 with
        | box xs wr => cases h3; exact hr'
        | row e sz es wr => cases h3; exact hr'
        | map m => cases h3; exact hr'
        | arr e sz es => cases h3; exact hr'
      · rw [h0] at h3; cases h3; exact hr'
  · rcases split1 hk with ⟨h1, h2⟩ | ⟨h1, h2, h3, h4⟩
    · rw [h2] at hm
      rcases hin.place t tk b h1 hm with h | h
      · exact hblk b h
      · have h : w.heap.size ≤ b := h
        exact .inr (Nat.le_trans hi.size h)
    · rw [h4] at hm
      obtain ⟨tk0, h0, _, _⟩ := frzk h3
      exact hi.place t tk0 b h0 hm
  · have cross : ∀ {t t' : Nat} {tk tk' : Tok}, mkK K1 t = .live tk → μ' t = some (.at b) → t' ∉ K.lo → frz D k t' = .live tk' → μ t' = some (.at b) → False := by
      intro t t' tk tk' h1 hm h2 h3 hm'
      obtain ⟨tk0, h0, _, _⟩ := frzk h3
      rcases hin.place t tk b h1 hm with h | h
      · exact nolent h0 h2 hm' h
      · have h : w.heap.size ≤ b := h
        have := hi.at_lt hm'
        omega
    rcases split1 hk with ⟨h1, h2⟩ | ⟨h1, h2, h3, h4⟩
    · rcases split1 hk' with ⟨g1, g2⟩ | ⟨g1, g2, g3, g4⟩
      · exact hin.inj t t' tk tk' b h1 g1 (h2 ▸ hm) (g2 ▸ hm')
      · exact (cross h1 (h2 ▸ hm) g2 g3 (g4 ▸ hm')).elim
    · rcases split1 hk' with ⟨g1, g2⟩ | ⟨g1, g2, g3, g4⟩
      · exact (cross g1 (g2 ▸ hm') h2 h3 (h4 ▸ hm)).elim
      · obtain ⟨tk0, h0, _, _⟩ := frzk h3
        obtain ⟨tk0', h0', _, _⟩ := frzk g3
        exact hi.inj t t' tk0 tk0' b h0 h0' (h4 ▸ hm) (g4 ▸ hm')
  · unfold aft at hk
    unfold aftμ
    rcases mkK_live (l := K1) (t := t) with ⟨tk1, h1⟩ | h1
    · rw [h1] at hk; cases hk
    · rw [h1] at hk ⊢
      simp only at hk ⊢
      split at hk
      · rename_i h; rw [if_pos h]
      · rename_i h
        rw [if_neg h]
        refine hi.dead t ?_
        simp only [frz] at hk
        split at hk
        · cases h' : k t with
          | fresh => rw [h'] at hk; cases hk
          | dead => rfl
          | live tk => rw [h'] at hk; cases tk <;> cases hk
        · exact hk
end

end Go.V
/- The value logic, part A: full rows: slices up to the capacity, rows that are written at a place. A step that is told by hand. Nothing is assumed. -/
set_option linter.unusedVariables false
set_option linter.unusedSimpArgs false
namespace Go.V
open Go.RowKit (Below)

section
variable {P : Program} {fr : Fr} {μ μ' : Nat → Option Pl} {k k' : Nat → TS} {w w' : World}

theorem bndA_run {n c : Nat} {lo hi : Option PV} {l h : Nat} (hb : bndA n c lo hi = some (l, h)) {C : Addr → Prop} {vl vh : Option Value}
    (hl : ORep w C μ lo vl) (hh : ORep w C μ hi vh) (hn : n ≤ c) :
    l ≤ h ∧ h ≤ c ∧ (Instr.sliceBounds true n c vl vh none).run P w = .ok (l, h, c) w := by
  unfold bndA at hb
  split at hb
  · obtain rfl := hl.none_inv
    obtain rfl := hh.none_inv
    cases hb
    exact ⟨by omega, by omega, rfl⟩
  · obtain rfl := hl.int_inv
    obtain rfl := hh.none_inv
    split at hb
    · rename_i h0
      cases hb
      refine ⟨by omega, by omega, ?_⟩
      simp only [Instr.sliceBounds, Instr.sliceBound, asIntOf, Sem.run_bind, Sem.run_pure, Result.andThen]
      rw [if_pos h0]; rfl
    · cases hb
  · obtain rfl := hl.none_inv
    obtain rfl := hh.int_inv
    split at hb
    · rename_i h0
      cases hb
      refine ⟨by omega, by omega, ?_⟩
      simp only [Instr.sliceBounds, Instr.sliceBound, asIntOf, Sem.run_bind, Sem.run_pure, Result.andThen]
      rw [if_pos ⟨h0.1, by omega⟩]; rfl
    · cases hb
  · obtain rfl := hl.int_inv
    obtain rfl := hh.int_inv
    split at hb
    · rename_i h0
      cases hb
      refine ⟨by omega, by omega, ?_⟩
      simp only [Instr.sliceBounds, Instr.sliceBound, asIntOf, Sem.run_bind, Sem.run_pure, Result.andThen]
      rw [if_pos ⟨h0.1, by omega⟩]
      simp only [Sem.run_bind, Sem.run_pure, Result.andThen]
      rw [if_pos ⟨h0.2.2.1, by omega⟩]; rfl
    · cases hb
  · cases hb
/-- A slice of a full row: its capacity is known. -/
theorem ref_arr (hi : Inv fr k μ w) {v : Value} {t sz lo n : Nat} {e : TypeId} {es : List (List PV)} (hk : k t = .live (.arr e sz es)) (h : RepV w (Cold fr k μ) μ v (.ref t sz lo n)) :
    ∃ b A c cs, μ t = some (.at b) ∧ v = .slice A n c ∧ n ≤ c ∧ (c = 0 ∨ A = some ⟨b, lo * sz, none⟩) ∧ lo + c = es.length ∧ 0 < sz ∧ (∀ x ∈ es, x.length = sz) ∧ w.heap[b]? = some (.cells cs e (0, 0)) ∧ cs.size = es.length * sz ∧ es.length ≤ maxLen ∧
      (∀ (i j : Nat) (x : List PV) (y : PV), es[i]? = some x → x[j]? = some y → ∃ v, cs[i * sz + j]? = some v ∧ RepV w (Cold fr k μ) μ v y) := by
  obtain ⟨p, hp, ⟨hpos, hall⟩, b, cs, rfl, hh, hs, hm, hc⟩ := hi.live t _ hk
  cases h with
  | base _ _ h => cases h
  | ref _ _ _ _ _ hu hn hat =>
    obtain ⟨A, c, hv, hnc, hA, hcap⟩ := hat b hp
    have := hcap cs _ _ hh
    rw [hs] at this
    exact ⟨b, A, c, cs, hp, hv, hnc, hA, Nat.eq_of_mul_eq_mul_right hpos this, hpos, hall, hh, hs, hm, hc⟩
theorem run_slaA (hi : Inv fr k μ w) {t : TypeId} {v : Value} {vl vh : Option Value} {x z : PV} {m : Nat} {lo h : Option PV} (hx : RepV w (Cold fr k μ) μ v x) (ha : arrOf k x = some m)
    (hl : ORep w (Cold fr k μ) μ lo vl) (hh : ORep w (Cold fr k μ) μ h vh) (hs : slaA P t m x lo h = some z) :
    ∃ u, (Instr.sliceAt t v vl vh none).run P w = .ok u w ∧ RepV w (Cold fr k μ) μ u z := by
  unfold slaA at hs
  split at hs
  · rename_i tk sz l n e sz' ht
    split at hs
    · rename_i hc
      obtain ⟨rfl, hlm⟩ := hc
      split at hs
      · rename_i i j hb
        cases hs
        unfold arrOf at ha
        simp only at ha
        split at ha
        · rename_i e2 sz2 es hk
          split at ha
          · rename_i hsz
            subst hsz
            cases ha
            obtain ⟨b, A, c, cs, hp, rfl, hnc, hA, hlc, hpos, hall, hheap, hcs, hm, hcell⟩ := ref_arr hi hk hx
            have hcm : es.length - l = c := by omega
            rw [hcm] at hb
            obtain ⟨h1, h2, hrun⟩ := bndA_run (P := P) hb hl hh hnc
            refine ⟨_, run_sliceAt' ht A n c i j vl vh hrun, .ref _ _ _ _ _ (by rw [hp]; simp) (fun e => by rw [hp] at e; cases e) (fun b' hb' => ?_)⟩
            rw [hp] at hb'; cases hb'
            refine ⟨_, _, rfl, by omega, ?_, fun cs' e' fz' hh' => ?_⟩
            · by_cases hci : c = i
              · left; omega
              · right
                rw [if_neg hci]
                have : c ≠ 0 := by omega
                rw [hA.resolve_left this]
                simp [Addr.add_lit, Nat.add_mul]
            · rw [hheap] at hh'; cases hh'
              rw [hcs]; congr 1; omega
          · cases ha
        · cases ha
      · cases hs
    · cases hs
  · cases hs
/-- Elements of a full row are written. -/
theorem arr_write (hi : Inv fr k μ w) {t b sz lo : Nat} {e : TypeId} {es ys : List (List PV)} (hk : k t = .live (.arr e sz es)) (hb : μ t = some (.at b)) (hys : ∀ y ∈ ys, y.length = sz) {cs : Array Value} (hh : w.heap[b]? = some (.cells cs e (0, 0)))
    {vs : List Value} (hl : vs.length = ys.length * sz) (hv : ∀ (i j : Nat) (x : List PV) (y : PV), ys[i]? = some x → x[j]? = some y → ∃ v, vs[i * sz + j]? = some v ∧ RepV w (Cold fr k μ) μ v y) (hle : lo + ys.length ≤ es.length) :
    lo * sz + vs.length ≤ cs.size ∧ Inv fr (upd k t (.live (.arr e sz (setR es lo ys)))) μ (w.setRow b (setR cs.toList (lo * sz) vs).toArray) ∧
      Keeps w (w.setRow b (setR cs.toList (lo * sz) vs).toArray) (Cold fr k μ) (Cold fr (upd k t (.live (.arr e sz (setR es lo ys)))) μ) μ μ := by
  obtain ⟨p, hp, ⟨hpos, hall⟩, b', cs', rfl, hh', hs, hm, hc⟩ := hi.live t _ hk
  rw [hb] at hp; cases hp
  rw [hh] at hh'; cases hh'
  have hfit : lo * sz + vs.length ≤ cs.size := by rw [hl, hs, ← Nat.add_mul]; exact Nat.mul_le_mul_right _ hle
  have K := Keeps.write (tk' := .arr e sz (setR es lo ys)) (arr := (setR cs.toList (lo * sz) vs).toArray) hi hk hb (by intro o ho; exact ho) hh (setR_size _ _ _ hfit)
  refine ⟨hfit, Inv.write hi hk hb hh K ⟨⟨hpos, fun x hx => ?_⟩, b, _, rfl, setRow_heap w b cs _ e _ hh, ?_, ?_, fun i j x y hx hy => ?_⟩, K⟩
  · simp only [setR, List.mem_append] at hx
    rcases hx with (hx | hx) | hx
    · exact hall x (List.mem_of_mem_take hx)
    · exact hys x hx
    · exact hall x (List.mem_of_mem_drop hx)
  · rw [setR_size _ _ _ hfit, setR_length _ _ _ hle]; exact hs
  · rw [setR_length _ _ _ hle]; exact hm
  · rw [setR_toArray_get _ _ _ hfit]
    rw [setR_get _ _ _ hle] at hx
    by_cases hin : lo ≤ i ∧ i < lo + ys.length
    · rw [if_pos hin] at hx
      have hxl := hys x (List.mem_of_getElem? hx)
      obtain ⟨hjl, _⟩ := List.getElem?_eq_some_iff.1 hy
      have m1 : lo * sz ≤ i * sz := Nat.mul_le_mul_right _ hin.1
      have m2 : (i - lo + 1) * sz ≤ ys.length * sz := Nat.mul_le_mul_right _ (by omega)
      have m3 : lo * sz + (i - lo) * sz = i * sz := by rw [← Nat.add_mul]; congr 1; omega
      rw [Nat.add_mul, Nat.one_mul] at m2
      rw [if_pos ⟨by omega, by omega⟩]
      obtain ⟨v, hv', hr⟩ := hv (i - lo) j x y hx hy
      have : i * sz + j - lo * sz = (i - lo) * sz + j := by omega
      rw [this]
      exact ⟨v, hv', hr.mono K⟩
    · rw [if_neg hin] at hx
      have hxl := hall x (List.mem_of_getElem? hx)
      obtain ⟨hjl, _⟩ := List.getElem?_eq_some_iff.1 hy
      obtain ⟨v, hv', hr⟩ := hc i j x y hx hy
      rw [if_neg ?_]
      · exact ⟨v, hv', hr.mono K⟩
      · intro hq
        rcases Nat.lt_or_ge i lo with h1 | h1
        · have : (i + 1) * sz ≤ lo * sz := Nat.mul_le_mul_right _ h1
          rw [Nat.add_mul, Nat.one_mul] at this; omega
        · have h2 : lo + ys.length ≤ i := by omega
          have : (lo + ys.length) * sz ≤ i * sz := Nat.mul_le_mul_right _ h2
          rw [Nat.add_mul] at this; omega
/-- The same at a row. -/
theorem row_write (hi : Inv fr k μ w) {t b sz lo : Nat} {e : TypeId} {es ys : List (List PV)} (hk : k t = .live (.row e sz es true)) (hb : μ t = some (.at b)) (hys : ∀ y ∈ ys, y.length = sz) {cs : Array Value} (hh : w.heap[b]? = some (.cells cs e (0, 0)))
    {vs : List Value} (hl : vs.length = ys.length * sz) (hv : ∀ (i j : Nat) (x : List PV) (y : PV), ys[i]? = some x → x[j]? = some y → ∃ v, vs[i * sz + j]? = some v ∧ RepV w (Cold fr k μ) μ v y) (hle : lo + ys.length ≤ es.length) :
    lo * sz + vs.length ≤ cs.size ∧ Inv fr (upd k t (.live (.row e sz (setR es lo ys) true))) μ (w.setRow b (setR cs.toList (lo * sz) vs).toArray) ∧
      Keeps w (w.setRow b (setR cs.toList (lo * sz) vs).toArray) (Cold fr k μ) (Cold fr (upd k t (.live (.row e sz (setR es lo ys) true))) μ) μ μ := by
  obtain ⟨p, hp, ⟨hpos, hall⟩, hrow⟩ := hi.live t _ hk
  rw [hb] at hp; cases hp
  rcases hrow with ⟨h, _⟩ | ⟨b', cs', c, hb', hh', hs, hcl, hm, hc⟩
  · cases h
  cases hb'
  rw [hh] at hh'; cases hh'
  have hfit : lo * sz + vs.length ≤ cs.size := by rw [hl, hs, ← Nat.add_mul]; exact Nat.mul_le_mul_right _ (by omega)
  have K := Keeps.write (tk' := .row e sz (setR es lo ys) true) (arr := (setR cs.toList (lo * sz) vs).toArray) hi hk hb (by intro o ho; exact absurd ho.1 (by simp)) hh (setR_size _ _ _ hfit)
  refine ⟨hfit, Inv.write hi hk hb hh K ⟨⟨hpos, fun x hx => ?_⟩, .inr ⟨b, _, c, rfl, setRow_heap w b cs _ e _ hh, ?_, ?_, hm, fun i j x y hx hy => ?_⟩⟩, K⟩
  · simp only [setR, List.mem_append] at hx
    rcases hx with (hx | hx) | hx
    · exact hall x (List.mem_of_mem_take hx)
    · exact hys x hx
    · exact hall x (List.mem_of_mem_drop hx)
  · rw [setR_size _ _ _ hfit]; exact hs
  · rw [setR_length _ _ _ hle]; exact hcl
  · rw [setR_toArray_get _ _ _ hfit]
    rw [setR_get _ _ _ hle] at hx
    by_cases hin : lo ≤ i ∧ i < lo + ys.length
    · rw [if_pos hin] at hx
      have hxl := hys x (List.mem_of_getElem? hx)
      obtain ⟨hjl, _⟩ := List.getElem?_eq_some_iff.1 hy
      have m1 : lo * sz ≤ i * sz := Nat.mul_le_mul_right _ hin.1
      have m2 : (i - lo + 1) * sz ≤ ys.length * sz := Nat.mul_le_mul_right _ (by omega)
      have m3 : lo * sz + (i - lo) * sz = i * sz := by rw [← Nat.add_mul]; congr 1; omega
      rw [Nat.add_mul, Nat.one_mul] at m2
      rw [if_pos ⟨by omega, by omega⟩]
      obtain ⟨v, hv', hr⟩ := hv (i - lo) j x y hx hy
      have : i * sz + j - lo * sz = (i - lo) * sz + j := by omega
      rw [this]
      exact ⟨v, hv', hr.mono K⟩
    · rw [if_neg hin] at hx
      have hxl := hall x (List.mem_of_getElem? hx)
      obtain ⟨hjl, _⟩ := List.getElem?_eq_some_iff.1 hy
      obtain ⟨v, hv', hr⟩ := hc i j x y hx hy
      rw [if_neg ?_]
      · exact ⟨v, hv', hr.mono K⟩
      · intro hq
        rcases Nat.lt_or_ge i lo with h1 | h1
        · have : (i + 1) * sz ≤ lo * sz := Nat.mul_le_mul_right _ h1
          rw [Nat.add_mul, Nat.one_mul] at this; omega
        · have h2 : lo + ys.length ≤ i := by omega
          have : (lo + ys.length) * sz ≤ i * sz := Nat.mul_le_mul_right _ h2
          rw [Nat.add_mul] at this; omega
end

/-! ### A step that is told by hand -/
def kmix (wr : List Nat) (k k1 : Nat → TS) : Nat → TS := fun t => if t ∈ wr then k t else k1 t
/-- What an operation does in each state that is alike where it looks. -/
structure Esc (P : Program) (σ : St) (op : Op) (v : PV) (k : Nat → TS) (f : Fp) : Prop where
  run : ∀ τ : St, (∀ s ∈ f.ins, τ.g s = σ.g s) → (∀ t ∈ f.rd ++ f.wr, τ.k t = σ.k t) → ∀ (fr : Fr) (μ : Nat → Option Pl) (n : Nat) (a : Act) (w : World) (o : Oper), o.op = op → StRep fr μ n τ a w →
    ∃ μ' w', Inv fr (kmix f.wr k τ.k) μ' w' ∧ Keeps w w' (Cold fr τ.k μ) (Cold fr (kmix f.wr k τ.k) μ') μ μ' ∧
      ((∃ u, (execOp a.eval o).run P w = .ok (.value u) w' ∧ RepV w' (Cold fr (kmix f.wr k τ.k) μ') μ' u v) ∨ ((execOp a.eval o).run P w = .ok .skip w' ∧ RepV w' (Cold fr (kmix f.wr k τ.k) μ') μ' undef v))
  frame : ∀ t, t ∉ f.wr → k t = σ.k t
theorem kmix_self {P : Program} {σ : St} {op : Op} {v : PV} {k : Nat → TS} {f : Fp} (h : Esc P σ op v k f) : kmix f.wr k σ.k = k := by
  funext t; simp only [kmix]; split
  · rfl
  · rename_i ht; exact (h.frame t ht).symm
theorem Esc.local {P : Program} {σ τ : St} {op : Op} {v : PV} {k : Nat → TS} {f : Fp} (h : Esc P σ op v k f) (hs : ∀ s ∈ f.ins, τ.g s = σ.g s) (hk : ∀ t ∈ f.rd ++ f.wr, τ.k t = σ.k t) : Esc P τ op v (kmix f.wr k τ.k) f := by
  refine ⟨fun ρ h1 h2 fr μ n a w o ho hst => ?_, fun t ht => by simp [kmix, ht]⟩
  have e : kmix f.wr (kmix f.wr k τ.k) ρ.k = kmix f.wr k ρ.k := by funext t; simp only [kmix]; split <;> rfl
  rw [e]
  exact h.run ρ (fun s hs' => (h1 s hs').trans (hs s hs')) (fun t ht => (h2 t ht).trans (hk t ht)) fr μ n a w o ho hst
end Go.V
