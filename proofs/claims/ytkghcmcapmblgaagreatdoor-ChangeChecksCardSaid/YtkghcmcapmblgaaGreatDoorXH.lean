/- A part of the proof, merged out of smaller texts. Nothing is assumed. -/
import Derived.Test.YtkghcmcapmblgaaGreatDoorXA
import Derived.SizedLaws
import Derived.OpenShut
import Derived.ChangeSame
import Derived.Test.YtkghcmcapmblgaaGreatDoorXF
set_option linter.all false
/- The value logic, part T: what a statement's arguments read as. Nothing is assumed. -/
set_option linter.unusedVariables false
set_option linter.unusedSimpArgs false
namespace Go.V

inductive F2 {α β : Type} (R : α → β → Prop) : List α → List β → Prop
  | nil : F2 R [] []
  | cons {x : α} {y : β} {l : List α} {m : List β} (h : R x y) (t : F2 R l m) : F2 R (x :: l) (y :: m)
section
variable {P : Program}
abbrev R0 (w : World) : Value → PV → Prop := Rep0 w (fun _ => True)
/-- What reads as data of the type 't' reads as some 'v'. -/
def Opens (P : Program) (t : TypeId) {X : Type} (cs : X → List PV) (fit : X → Prop) : Prop := ∀ (H : Type) (enc : TypeId × Value → H) (w : World) (sp : Nat → Bool) (held : Bool) (fuel : Nat) (cells : List Value) (x : DataW H × List MemPlace),
  DataW.trod enc P w 0 sp held fuel t cells = some x → (∀ n ∈ x.1.weights P t, n ≤ reachBytes) → ∃ v : X, F2 (R0 w) cells (cs v) ∧ fit v
theorem Opens.map {t : TypeId} {X Y : Type} {cs : X → List PV} {fit : X → Prop} {cs' : Y → List PV} {fit' : Y → Prop} (h : Opens P t cs fit) (g : X → Y) (hc : ∀ v, cs' (g v) = cs v) (hf : ∀ v, fit v → fit' (g v)) : Opens P t cs' fit' := by
  intro H enc w sp held fuel cells x hx hw
  obtain ⟨v, h1, h2⟩ := h H enc w sp held fuel cells x hx hw
  exact ⟨g v, by rw [hc]; exact h1, hf v h2⟩
theorem opens_bool {t : TypeId} (hu : P.underlying t = some .bool) : Opens P t (fun b : Bool => [.bool b]) (fun _ => True) := by
  intro H enc w sp held fuel cells x hx hw
  obtain ⟨b, rfl, _⟩ := DataW.trod_bool hu hx
  exact ⟨b, .cons (.bool b) .nil, trivial⟩
theorem opens_int {t : TypeId} {k : IntKind} (hu : P.underlying t = some (.int k)) : Opens P t (fun n : Int => [.int k n]) (fun n => (Lit.int k n).wf = true) := by
  intro H enc w sp held fuel cells x hx hw
  obtain ⟨b, rfl, _, h⟩ := DataW.trod_int hu hx
  exact ⟨b, .cons (.int k b) .nil, h⟩
theorem opens_str {t : TypeId} (hu : P.underlying t = some .string) : Opens P t (fun s : List UInt8 => [.str s]) (fun s => s.length ≤ 140737488351232) := by
  intro H enc w sp held fuel cells x hx hw
  obtain ⟨s, rfl, rfl, _⟩ := DataW.trod_string hu hx
  refine ⟨s.data.toList, .cons (.str s _ rfl) .nil, ?_⟩
  have := hw s.data.toList.length (by simp [DataW.weights])
  simpa [reachBytes] using this
theorem forall2_get {α β : Type} {R : α → β → Prop} : ∀ {l : List α} {m : List β}, F2 R l m → l.length = m.length ∧ ∀ (i : Nat) (x : α) (y : β), l[i]? = some x → m[i]? = some y → R x y
  | _, _, .nil => ⟨rfl, fun i x y h => by simp at h⟩
  | _, _, .cons h t => by
    obtain ⟨h1, h2⟩ := forall2_get t
    refine ⟨by simp [h1], fun i x y hx hy => ?_⟩
    cases i with
    | zero => simp at hx hy; subst hx; subst hy; exact h
    | succ i => exact h2 i x y (by simpa using hx) (by simpa using hy)
theorem forall2_app {α β : Type} {R : α → β → Prop} : ∀ {l l' : List α} {m m' : List β}, F2 R l m → F2 R l' m' → F2 R (l ++ l') (m ++ m')
  | _, _, _, _, .nil, h => h
  | _, _, _, _, .cons h t, h' => .cons h (forall2_app t h')
theorem weightsAll_mem {H : Type} {e : TypeId} : ∀ {l : List (DataW H)} {d : DataW H} {n : Nat}, d ∈ l → n ∈ d.weights P e → n ∈ DataW.weightsAll P e l
  | x :: l, d, n, hd, hn => by
    simp only [DataW.weightsAll, List.mem_append]
    rcases List.mem_cons.1 hd with rfl | h
    · exact .inl hn
    · exact .inr (weightsAll_mem h hn)
theorem cells_get {w : World} {a : Go.Addr} {n : Nat} {cs : List Value} (h : w.cells? 0 a n = some cs) : cs.length = n ∧ ∀ i, i < n → w.cell? (a.add i) = cs[i]? := by
  have := World.cells?_some h
  exact ⟨this.2.1, this.2.2⟩
theorem opens_slice {t e : TypeId} {X : Type} {cs : X → List PV} {fit : X → Prop} (hu : P.underlying t = some (.slice e)) (h : Opens P e cs fit) (hc : ∀ v, (cs v).length = P.cellsOf e) (hpos : 0 < P.cellsOf e) :
    Opens P t (fun l : List X => [.sl (l.map cs)]) (fun l => (∀ v ∈ l, fit v) ∧ l.length * P.bytesOf e ≤ 140737488351232) := by
  intro H enc w sp held fuel cells x hx hw
  rcases DataW.trod_slice hu hx with ⟨rfl, _⟩ | ⟨a, len, cap, elems, rest, n, _, rfl, rfl, _, hl, hm, hlen, hel, _, _⟩
  · exact ⟨[], .cons (.sl0 _ _) .nil, by simp, by simp⟩
  · have hw1 : ∀ d ∈ elems, ∀ m ∈ d.1.weights P e, m ≤ reachBytes := fun d hd m hm => hw m (by
      simp only [DataW.weights, hu, List.mem_cons, List.mem_append]
      exact .inr (.inl (weightsAll_mem (List.mem_map_of_mem hd) hm)))
    have hw2 : elems.length * P.bytesOf e ≤ 140737488351232 := by
      have := hw ((elems.length + rest.length) * P.bytesOf e) (by simp [DataW.weights, hu])
      have h2 : elems.length * P.bytesOf e ≤ (elems.length + rest.length) * P.bytesOf e := Nat.mul_le_mul_right _ (by omega)
      simp only [reachBytes] at this; omega
    have key : ∀ i, i < len → ∃ (cl : List Value) (v : X), w.cells? 0 (a.add (i * P.cellsOf e)) (P.cellsOf e) = some cl ∧ F2 (R0 w) cl (cs v) ∧ fit v := by
      intro i hi
      have h1 := hel i hi
      rw [List.getElem?_eq_getElem (by omega)] at h1
      cases hcl : w.cells? 0 (a.add (i * P.cellsOf e)) (P.cellsOf e) with
      | none => rw [hcl] at h1; cases h1
      | some cl =>
        rw [hcl] at h1
        obtain ⟨v, h2, h3⟩ := h H enc w sp held n cl _ h1 (hw1 _ (List.getElem_mem _))
        exact ⟨cl, v, rfl, h2, h3⟩
    by_cases h0 : len = 0
    · subst h0
      exact ⟨[], .cons (.sl0 _ _) .nil, by simp, by simp⟩
    have hX : Nonempty X := let ⟨_, v, _⟩ := key 0 (by omega); ⟨v⟩
    obtain ⟨V, hV⟩ : ∃ V : Nat → X, ∀ i, i < len → ∃ cl, w.cells? 0 (a.add (i * P.cellsOf e)) (P.cellsOf e) = some cl ∧ F2 (R0 w) cl (cs (V i)) ∧ fit (V i) := by
      have : ∀ i, ∃ v, i < len → ∃ cl, w.cells? 0 (a.add (i * P.cellsOf e)) (P.cellsOf e) = some cl ∧ F2 (R0 w) cl (cs v) ∧ fit v := fun i => by
        by_cases hi : i < len
        · obtain ⟨cl, v, h1⟩ := key i hi; exact ⟨v, fun _ => ⟨cl, h1⟩⟩
        · exact ⟨Classical.choice hX, fun h => absurd h hi⟩
      exact ⟨fun i => Classical.choose (this i), fun i => Classical.choose_spec (this i)⟩
    have hcell : ∀ i j, i < len → j < P.cellsOf e → ∃ u, w.cell? ((a.add (i * P.cellsOf e)).add j) = some u ∧ ∀ x, (cs (V i))[j]? = some x → R0 w u x := by
      intro i j hi hj
      obtain ⟨cl, h1, h2, _⟩ := hV i hi
      obtain ⟨h3, h4⟩ := cells_get h1
      have hjl : j < cl.length := by omega
      refine ⟨cl[j], by rw [h4 j hj, List.getElem?_eq_getElem hjl], fun x hx => (forall2_get h2).2 j _ x (List.getElem?_eq_getElem hjl) hx⟩
    have hspot : a.spot = none := by
      obtain ⟨u, hu, _⟩ := hcell 0 0 (by omega) hpos
      simp only [Nat.zero_mul, Go.Addr.add, if_true] at hu
      unfold World.cell? at hu
      split at hu
      · split at hu
        · cases hu
        · rename_i hs; simpa using hs
      · cases hu
    obtain ⟨b, o, sp'⟩ := a
    simp only at hspot
    subst hspot
    have hadd : ∀ i j, (((⟨b, o, none⟩ : Go.Addr).add (i * P.cellsOf e)).add j) = ⟨b, o + i * P.cellsOf e + j, none⟩ := fun i j => by simp only [Go.Addr.add_lit]
    obtain ⟨U, hU⟩ := fcell2 (n := len) (m := P.cellsOf e) (p := fun i j u => w.cell? (((⟨b, o, none⟩ : Go.Addr).add (i * P.cellsOf e)).add j) = some u ∧ ∀ x, (cs (V i))[j]? = some x → R0 w u x) hcell
    refine ⟨(List.range len).map V, .cons ?_ .nil, fun v hv => ?_, by simpa [hlen] using hw2⟩
    · refine .sl b o cap len (P.cellsOf e) _ U (by simp) hpos (by simpa using hl) (fun y hy => ?_) (fun i j hi hj => ?_) (fun _ _ _ _ => trivial) (fun i j y x hy hx => ?_)
      · obtain ⟨v, _, rfl⟩ := List.mem_map.1 hy; exact hc v
      · simp at hi
        rw [← hadd]; exact (hU i j hi hj).1
      · simp only [List.map_map, List.getElem?_map] at hy
        by_cases hi : i < len
        · rw [List.getElem?_range hi] at hy
          cases hy
          obtain ⟨hjl, _⟩ := List.getElem?_eq_some_iff.1 hx
          simp only [Function.comp, hc] at hjl
          exact (hU i j hi hjl).2 x hx
        · rw [List.getElem?_eq_none (by simpa using hi)] at hy; cases hy
    · obtain ⟨i, hi, rfl⟩ := List.mem_map.1 hv
      obtain ⟨_, _, _, h3⟩ := hV i (List.mem_range.1 hi)
      exact h3
/-- The fields of a struct from some place on. -/
def OpensF (P : Program) (total : Nat) (fs : List (TypeId × Nat × Nat)) (off : Nat) {X : Type} (cs : X → List PV) (fit : X → Prop) : Prop := ∀ (H : Type) (enc : TypeId × Value → H) (w : World) (sp : Nat → Bool) (held : Bool) (n : Nat) (cells : List Value) (xs : List (DataW H × List MemPlace)),
  cells.length = total → xs.length = fs.length → (∀ (i : Nat) (f : TypeId × Nat × Nat), fs[i]? = some f → DataW.trod enc P w 0 sp held n f.1 ((cells.drop f.2.1).take f.2.2) = xs[i]?) → (∀ m ∈ DataW.weightsEach P (fs.map (·.1)) (xs.map (·.1)), m ≤ reachBytes) →
  ∃ v : X, F2 (R0 w) (cells.drop off) (cs v) ∧ fit v
theorem OpensF.nil {total : Nat} : OpensF P total [] total (fun _ : Unit => []) (fun _ => True) := by
  intro H enc w sp held n cells xs hl hx hf hw
  exact ⟨(), by rw [List.drop_eq_nil_of_le (by omega)]; exact .nil, trivial⟩
theorem OpensF.cons {total off : Nat} {t : TypeId} {k : Nat} {fs : List (TypeId × Nat × Nat)} {X Y : Type} {cs : X → List PV} {fit : X → Prop} {cs' : Y → List PV} {fit' : Y → Prop} (h : Opens P t cs fit) (h' : OpensF P total fs (off + k) cs' fit') :
    OpensF P total ((t, off, k) :: fs) off (fun v : X × Y => cs v.1 ++ cs' v.2) (fun v => fit v.1 ∧ fit' v.2) := by
  intro H enc w sp held n cells xs hl hx hf hw
  cases xs with
  | nil => simp at hx
  | cons x xs =>
    have h0 := hf 0 (t, off, k) rfl
    simp only [List.map_cons, DataW.weightsEach, List.mem_append] at hw
    obtain ⟨v, h1, h2⟩ := h H enc w sp held n _ x (by simpa using h0) (fun m hm => hw m (.inl hm))
    obtain ⟨v', h3, h4⟩ := h' H enc w sp held n cells xs hl (by simpa using hx) (fun i f hi => by simpa using hf (i + 1) f (by simpa using hi)) (fun m hm => hw m (.inr hm))
    refine ⟨(v, v'), ?_, h2, h4⟩
    have : cells.drop off = (cells.drop off).take k ++ cells.drop (off + k) := by rw [← List.drop_drop]; exact (List.take_append_drop k _).symm
    rw [this]
    exact forall2_app h1 h3
/-- The fields of a struct. -/
def fieldsOf (P : Program) (t : TypeId) : Option (List (TypeId × Nat × Nat) × Nat) := match P.underlying t with
  | some (.struct fs) => some (fs.toList.map (fun f => (f.type, f.offset, P.cellsOf f.type)), P.cellsOf t)
  | _ => none
theorem opens_struct {t : TypeId} {fs : List (TypeId × Nat × Nat)} {total : Nat} {X : Type} {cs : X → List PV} {fit : X → Prop} (hu : fieldsOf P t = some (fs, total)) (h : OpensF P total fs 0 cs fit) : Opens P t cs fit := by
  intro H enc w sp held fuel cells x hx hw
  unfold fieldsOf at hu
  split at hu
  · rename_i gs hg
    cases hu
    obtain ⟨xs, n, _, rfl, hl, hlen, hf⟩ := DataW.trod_struct hg hx
    obtain ⟨v, h1, h2⟩ := h H enc w sp held n cells xs hl (by simp [hlen]) (fun i f hi => by
      rw [List.getElem?_map] at hi
      cases hgi : gs.toList[i]? with
      | none => rw [hgi] at hi; cases hi
      | some g =>
        rw [hgi] at hi; cases hi
        exact hf i g (by simpa using hgi)) (fun m hm => hw m (by
        simp only [DataW.weights, hg]
        simpa [List.map_map, Function.comp_def] using hm))
    exact ⟨v, by simpa using h1, h2⟩
  · cases hu
/-- A struct that is handed in. -/
theorem Opens.agg {t : TypeId} {X : Type} {cs : X → List PV} {fit : X → Prop} (h : Opens P t cs fit) {H : Type} {enc : TypeId × Value → H} {w : World} {sp : Nat → Bool} {held : Bool} {cells : Array Value} {d : DataW H} {p : List MemPlace}
    (ht : DataW.Trod enc P w 0 sp held t (.agg cells) d p) (hw : ∀ n ∈ d.weights P t, n ≤ reachBytes) : ∃ v, R0 w (.agg cells) (.agg (cs v)) ∧ fit v := by
  obtain ⟨fuel, hf⟩ := ht
  obtain ⟨v, h1, h2⟩ := h H enc w sp held fuel _ _ hf hw
  obtain ⟨h3, h4⟩ := forall2_get h1
  exact ⟨v, .agg _ _ (by simpa [Value.cells] using h3) (fun i u x hu hx => h4 i u x (by simpa [Value.cells] using hu) hx), h2⟩
/-- A value of one cell that is handed in. -/
theorem Opens.one {t : TypeId} {X : Type} {c : X → PV} {fit : X → Prop} (h : Opens P t (fun v => [c v]) fit) {H : Type} {enc : TypeId × Value → H} {w : World} {sp : Nat → Bool} {held : Bool} {u : Value} (hu : u.cells = #[u]) {d : DataW H} {p : List MemPlace}
    (ht : DataW.Trod enc P w 0 sp held t u d p) (hw : ∀ n ∈ d.weights P t, n ≤ reachBytes) : ∃ v, R0 w u (c v) ∧ fit v := by
  obtain ⟨fuel, hf⟩ := ht
  obtain ⟨v, h1, h2⟩ := h H enc w sp held fuel _ _ hf hw
  obtain ⟨h3, h4⟩ := forall2_get h1
  exact ⟨v, h4 0 u (c v) (by simp [hu]) (by simp), h2⟩
theorem sized_each {H : Type} {ts : List TypeId} {ds : List (DataW H)} (h : (DataW.weightsEach P ts ds).all (· ≤ reachBytes) = true) {j : Nat} {t : TypeId} {d : DataW H} (ht : ts[j]? = some t) (hd : ds[j]? = some d) : ∀ n ∈ d.weights P t, n ≤ reachBytes := fun n hn => by
  have := List.all_eq_true.1 h n (DataW.weights_mem_each ht hd n hn)
  simpa using this
end
end Go.V
/- What the statements' arguments read as. Nothing is assumed. -/
set_option linter.unusedVariables false
set_option linter.unusedSimpArgs false
set_option maxRecDepth 20000
set_option pp.deepTerms false
namespace Go.V
open Go.Proofs

theorem oBool : Opens Tryz.prog 4 (fun b : Bool => [.bool b]) (fun _ => True) := opens_bool (by kernel_rfl)
theorem oInt : Opens Tryz.prog 3 (fun n : Int => [.int .i64 n]) (fun _ => True) := (opens_int (by kernel_rfl)).map id (fun _ => rfl) (fun _ _ => trivial)
theorem oU64 : Opens Tryz.prog 36 (fun n : Int => [.int .u64 n]) (fun _ => True) := (opens_int (by kernel_rfl)).map id (fun _ => rfl) (fun _ _ => trivial)
theorem oStr : Opens Tryz.prog 9 (fun s : Str => [.str s]) (fun s => fits s) := (opens_str (by kernel_rfl)).map id (fun _ => rfl) (fun v h => by simp only [id]; omega)
theorem oAddr : Opens Tryz.prog 38 Addr.cs (fun _ => True) :=
  (opens_struct (fs := [(4, 0, 1), (36, 1, 1), (36, 2, 1)]) (total := 3) (by kernel_rfl) (.cons oBool (.cons oU64 (.cons oU64 .nil)))).map (fun v => ⟨v.1, v.2.1, v.2.2.1⟩) (fun v => rfl) (fun _ _ => trivial)
theorem oPrefix : Opens Tryz.prog 40 Prefix.cs (fun _ => True) :=
  (opens_struct (fs := [(38, 0, 3), (3, 3, 1)]) (total := 4) (by kernel_rfl) (.cons oAddr (.cons oInt .nil))).map (fun v => ⟨v.1, v.2.1⟩) (fun v => rfl) (fun _ _ => trivial)
theorem oBlock : Opens Tryz.prog 42 Block.cs (fun b => fitB b) :=
  (opens_struct (fs := [(40, 0, 4), (3, 4, 1), (9, 5, 1), (9, 6, 1), (3, 7, 1)]) (total := 8) (by kernel_rfl) (.cons oPrefix (.cons oInt (.cons oStr (.cons oStr (.cons oInt .nil)))))).map (fun v => ⟨v.1, v.2.1, v.2.2.1, v.2.2.2.1, v.2.2.2.2.1⟩) (fun v => rfl) (fun _ h => ⟨h.2.2.1, h.2.2.2.1⟩)
theorem oHost : Opens Tryz.prog 44 Host.cs (fun b => fitH b) :=
  (opens_struct (fs := [(9, 0, 1), (38, 1, 3), (3, 4, 1)]) (total := 5) (by kernel_rfl) (.cons oStr (.cons oAddr (.cons oInt .nil)))).map (fun v => ⟨v.1, v.2.1, v.2.2.1⟩) (fun v => rfl) (fun _ h => h.1)
theorem oBlocks : Opens Tryz.prog 22 (fun l : List Block => [.sl (blks l)]) (fun l => ∀ b ∈ l, fitB b) := (opens_slice (by kernel_rfl) oBlock (fun v => by rfl) (by decide +kernel)).map id (fun _ => rfl) (fun _ h => h.1)
theorem oHosts : Opens Tryz.prog 23 (fun l : List Host => [.sl (hsts l)]) (fun l => ∀ b ∈ l, fitH b) := (opens_slice (by kernel_rfl) oHost (fun v => by rfl) (by decide +kernel)).map id (fun _ => rfl) (fun _ h => h.1)
theorem oStrs : Opens Tryz.prog 24 (fun l : List Str => [.sl (strs l)]) (fun l => ∀ b ∈ l, fits b) := (opens_slice (by kernel_rfl) oStr (fun v => by rfl) (by decide +kernel)).map id (fun _ => rfl) (fun _ h => h.1)
theorem oSpace : Opens Tryz.prog 26 Space.cs shortS :=
  (opens_struct (fs := [(22, 0, 1), (23, 1, 1), (24, 2, 1)]) (total := 3) (by kernel_rfl) (.cons oBlocks (.cons oHosts (.cons oStrs .nil)))).map (fun v => ⟨v.1, v.2.1, v.2.2.1⟩) (fun v => rfl) (fun _ h => ⟨h.1, h.2.1, h.2.2.1⟩)
theorem oChange : Opens Tryz.prog 46 Change.cs fitC :=
  (opens_struct (fs := [(3, 0, 1), (42, 1, 8), (3, 9, 1), (3, 10, 1), (44, 11, 5), (9, 16, 1)]) (total := 17) (by kernel_rfl) (.cons oInt (.cons oBlock (.cons oInt (.cons oInt (.cons oHost (.cons oStr .nil))))))).map
    (fun v => ⟨v.1, v.2.1, v.2.2.1, v.2.2.2.1, v.2.2.2.2.1, v.2.2.2.2.2.1⟩) (fun v => rfl) (fun _ h => ⟨h.2.1.1, h.2.1.2, h.2.2.2.2.1, h.2.2.2.2.2.1⟩)
theorem oChanges : Opens Tryz.prog 27 (fun l : List Change => [.sl (chgs l)]) (fun l => ∀ b ∈ l, fitC b) := (opens_slice (by kernel_rfl) oChange (fun v => by rfl) (by decide +kernel)).map id (fun _ => rfl) (fun _ h => h.1)
end Go.V
