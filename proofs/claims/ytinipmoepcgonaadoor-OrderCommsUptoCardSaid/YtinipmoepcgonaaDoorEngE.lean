/-
  An interpreter of the model over a heap of its own, and the rules by which its answers are found: part 5.
-/
import Derived.Test.YtinipmoepcgonaaDoorEngD
set_option linter.unusedSimpArgs false
set_option linter.unusedVariables false

namespace Go.Eng
open Go

attribute [simp] wpops wpg wpo pop isAlloc heavy pl pev free freeN okD PS.put List.lookup isSc pLen pBin goInt pIndexAddr pLoad pConv pIndex pSlice pbound pField pPart pFieldAddr pBuild pfill pparts pcells pblit vcells Value.cells
  palloc pfrz pfrzL pstore pappend pold pnew pview mapOpt cellOk pcellOk dblit notNil pTA plS scOf alight aeval
  room str pargs parg plend renL PV.ren Ob.ren idxIn backF backOb isScal enumT Ret presults presult oneP wpD preads ptouch stNext isStat statO isLd DC there PS.norm
  abin_lss abin_leq abin_gtr abin_geq abin_eql abin_neq abin_add abin_sub abin_mul abin_str_eql abin_str_neq wrap_i64_id wrap_u8_id

section
variable {C : Ctx} {f : FuncId} {p p' : PS} {as as' : List PV}

@[congr] theorem wpcall_congr {K E : PV → PS → Prop} (h : as = as') (hp : p = p') : wpcall C f as p K E = wpcall C f as' p' K E := by subst h; subst hp; rfl
@[congr] theorem wpcallD_congr {K : List Nat → PV → PS → Prop} (h : as = as') (hp : p = p') : wpcallD C f as p K = wpcallD C f as' p' K := by subst h; subst hp; rfl
@[congr] theorem T_congr {fn : FuncId} {rd : Option Nat} {c : Code} {Q : PEx → PS → Prop} (hp : p = p') : T C fn rd c p Q = T C fn rd c p' Q := by subst hp; rfl

/-- A call of which the answer is known. -/
theorem wpcall.eq (ks : List Nat) {K E : PV → PS → Prop} {φ : Prop} {O' os : List Ob} {x : PV} (hn : ks.Nodup) (hks : ∀ k ∈ ks, k < p.ob.length) (hp : pargs ks p.ob as = some (φ, O', as')) (hφ : φ)
    (h : FS C f (renL (fun k => idxIn k ks) as') (ks.map fun k => (O'.getD k .gone).ren (fun k => idxIn k ks)) (fun r => r = .ret x os))
    (hK : K (x.ren (backF ks O'.length)) { p with ob := backOb (backF ks O'.length) ks os O' ++ (os.drop ks.length).map (Ob.ren (backF ks O'.length)) }) : wpcall C f as p K E := by
  refine .inl ⟨ks, (fun r => r = .ret x os), hn, hks, ?_⟩
  rw [hp]
  refine ⟨hφ, h, ?_, ?_⟩
  · rintro y os' h; cases h; exact hK
  · rintro y os' h; cases h

theorem wpcall.lend {K E : PV → PS → Prop} {φ : Prop} {os : List Ob} {x : PV} (hp : plend p.ob as = some (φ, as')) (hφ : φ) (h : FS C f (renL (fun _ => none) as') [] (fun r => r = .ret x os)) (hx : isScal x = true) (hK : K x p) : wpcall C f as p K E := by
  refine .inr ⟨(fun r => r = .ret x os), ?_⟩
  rw [hp]
  refine ⟨hφ, h, ?_, ?_⟩
  · rintro y os' h; cases h; exact ⟨hx, hK⟩
  · rintro y os' h; cases h

theorem wpcallD.eq (ks : List Nat) {K : List Nat → PV → PS → Prop} {φ : Prop} {O' os : List Ob} {x : PV} (hn : ks.Nodup) (hks : ∀ k ∈ ks, k < p.ob.length) (hp : pargs ks p.ob as = some (φ, O', as')) (hφ : φ)
    (h : FS C f (renL (fun k => idxIn k ks) as') (ks.map fun k => (O'.getD k .gone).ren (fun k => idxIn k ks)) (fun r => r = .ret x os))
    (hK : K ks (x.ren (backF ks O'.length)) { p with ob := backOb (backF ks O'.length) ks os O' ++ (os.drop ks.length).map (Ob.ren (backF ks O'.length)) }) : wpcallD C f as p K := by
  refine .inl ⟨ks, (fun r => r = .ret x os), hn, hks, ?_⟩
  rw [hp]
  refine ⟨hφ, h, ?_, ?_⟩
  · rintro y os' h; cases h; exact hK
  · rintro y os' h; cases h

theorem wpcallD.lend {K : List Nat → PV → PS → Prop} {φ : Prop} {os : List Ob} {x : PV} (hp : plend p.ob as = some (φ, as')) (hφ : φ) (h : FS C f (renL (fun _ => none) as') [] (fun r => r = .ret x os)) (hx : isScal x = true) (hK : K [] x p) : wpcallD C f as p K := by
  refine .inr ⟨(fun r => r = .ret x os), ?_⟩
  rw [hp]
  refine ⟨hφ, h, ?_, ?_⟩
  · rintro y os' h; cases h; exact ⟨hx, hK⟩
  · rintro y os' h; cases h
end

section
variable {C : Ctx} {p : PS} {Q : PEx → PS → Prop} {fn : FuncId} {rd : Option Nat} {c : Operand} {x y b : Code}
theorem T.ifT (hc : pev p.tm c = some (.dv (.sc (.bool true)))) (h : T C fn rd (.seq x b) p Q) : T C fn rd (.seq (.cond c x y) b) p Q := T.ifs hc (fun _ => h) (fun h => by cases h)
theorem T.ifF (hc : pev p.tm c = some (.dv (.sc (.bool false)))) (h : T C fn rd (.seq y b) p Q) : T C fn rd (.seq (.cond c x y) b) p Q := T.ifs hc (fun h => by cases h) (fun _ => h)
theorem T.condT (hc : pev p.tm c = some (.dv (.sc (.bool true)))) (h : T C fn rd x p Q) : T C fn rd (.cond c x y) p Q := T.cond hc (fun _ => h) (fun h => by cases h)
theorem T.condF (hc : pev p.tm c = some (.dv (.sc (.bool false)))) (h : T C fn rd y p Q) : T C fn rd (.cond c x y) p Q := T.cond hc (fun h => by cases h) (fun _ => h)
end

theorem NOk.mk' {p : PS} {ks : List Nat} (h1 : ks.Nodup) (h2 : ∀ k ∈ ks, k < p.ob.length) (h3 : ks.take p.m = List.range p.m) : NOk p ks := ⟨h1, h2, h3⟩

@[simp] theorem bytesOfD_bcs (l : List UInt8) : bytesOfD (bcs l) = some l := by
  induction l with
  | nil => rfl
  | cons a l ih => simp only [bcs, List.map_cons] at ih ⊢; simp only [bytesOfD, ih]; simp

attribute [simp] bcs_length

@[simp] theorem headD_drop {α : Type} (l : List α) (i : Nat) (d : α) : (l.drop i).headD d = l.getD i d := by
  simp [List.headD_eq_head?_getD, List.head?_drop, List.getD]

theorem getD_map {α β : Type} (f : α → β) (l : List α) (i : Nat) (d : β) (h : i < l.length) : (l.map f).getD i d = f l[i] := by
  simp [List.getD, h]

@[simp] theorem dcellOk_sc (v : Value) : dcellOk (.sc v) = cellOk v := rfl
@[simp] theorem dcellOk_sl (z n : Nat) (cs : List DV) : dcellOk (.sl z n cs) = true := rfl
@[simp] theorem dcellOk_ag (cs : List DV) : dcellOk (.ag cs) = false := rfl
@[simp] theorem dcellOk_ifc (t : TypeId) (d : DV) : dcellOk (.ifc t d) = true := rfl
@[simp] theorem OkD_nil : OkD [] := rfl
@[simp] theorem OkD_cons {x : DV} {l : List DV} : OkD (x :: l) ↔ dcellOk x = true ∧ OkD l := by simp [OkD]
@[simp] theorem OkD_append {a b : List DV} : OkD (a ++ b) ↔ OkD a ∧ OkD b := by simp [OkD]
@[simp] theorem OkD_bcs (l : List UInt8) : OkD (bcs l) := by simp [OkD, bcs]
@[simp] theorem OkD_map {α : Type} {f : α → DV} (l : List α) : OkD (l.map f) ↔ ∀ x ∈ l, dcellOk (f x) = true := by simp [OkD]
@[simp] theorem OkD_map_take {α : Type} {f : α → DV} (l : List α) (i : Nat) : OkD ((l.map f).take i) ↔ ∀ x ∈ l.take i, dcellOk (f x) = true := by rw [← List.map_take, OkD_map]
@[simp] theorem OkD_map_drop {α : Type} {f : α → DV} (l : List α) (i : Nat) : OkD ((l.map f).drop i) ↔ ∀ x ∈ l.drop i, dcellOk (f x) = true := by rw [← List.map_drop, OkD_map]
theorem OkD.take {l : List DV} (i : Nat) (h : OkD l) : OkD (l.take i) := by
  simp only [OkD, List.all_eq_true] at h ⊢
  exact fun x hx => h x (List.mem_of_mem_take hx)
theorem OkD.drop {l : List DV} (i : Nat) (h : OkD l) : OkD (l.drop i) := by
  simp only [OkD, List.all_eq_true] at h ⊢
  exact fun x hx => h x (List.mem_of_mem_drop hx)
theorem OkD.set {l : List DV} (i : Nat) {x : DV} (h : OkD l) (k : dcellOk x = true) : OkD (l.set i x) := by
  simp only [OkD, List.all_eq_true] at h ⊢
  intro y hy
  rcases List.mem_or_eq_of_mem_set hy with h1 | rfl
  · exact h y h1
  · exact k
@[simp] theorem map_take_len {α β : Type} (f : α → β) (l : List α) : (l.map f).take l.length = l.map f := List.take_of_length_le (by simp)

theorem bcs_append (a b : List UInt8) : bcs (a ++ b) = bcs a ++ bcs b := by simp [bcs]
@[simp] theorem bcs_take (a : List UInt8) (n : Nat) : (bcs a).take n = bcs (a.take n) := by simp [bcs]
@[simp] theorem bcs_drop (a : List UInt8) (n : Nat) : (bcs a).drop n = bcs (a.drop n) := by simp [bcs]
theorem bcs_getD (a : List UInt8) (i : Nat) (h : i < a.length) (d : DV) : (bcs a).getD i d = .sc (.int .u8 (a[i]).toNat) := by simp [bcs, List.getD, h]

/-- A slice of bytes; of slices of bytes; a text; texts. -/
def bytesD (l : List UInt8) : DV := .sl 1 l.length (bcs l)
def linesD (ls : List (List UInt8)) : DV := .sl 1 ls.length (ls.map bytesD)
abbrev i64 (n : Int) : PV := .dv (.sc (.int .i64 n))
abbrev u8 (n : Int) : PV := .dv (.sc (.int .u8 n))
abbrev bo (b : Bool) : PV := .dv (.sc (.bool b))
abbrev tx (l : List UInt8) : PV := .dv (.sc (str l))

@[simp] theorem dcellOk_bytesD (l : List UInt8) : dcellOk (bytesD l) = true := rfl
@[simp] theorem dcellOk_linesD (l : List (List UInt8)) : dcellOk (linesD l) = true := rfl
attribute [simp] List.take_take

-- ---------------------------------------------------------------- what came in
theorem flatMap_len {α β : Type} {enc : α → List β} {z : Nat} (henc : ∀ x, (enc x).length = z) (l : List α) : (l.flatMap enc).length = l.length * z := by
  induction l with
  | nil => simp
  | cons a l ih => simp only [List.flatMap_cons, List.length_append, List.length_cons, henc, ih, Nat.add_mul, Nat.one_mul]; omega

/-- Elements of a slice that came in. -/
theorem typed_slice {α : Type} {P : Program} {H : AHeap} {n : Nat} {t e : TypeId} {z k : Nat} {acs : List Value} (hu : P.underlying t = some (.slice e)) (hz : P.cellsOf e = z) (hz0 : z ≠ 0) (enc : α → List DV) (μ : α → Nat) (henc : ∀ x, (enc x).length = z)
    (hel : ∀ acs k, acs.length = z → Typed P H n e acs k → ∃ x, RDs H (fun _ => True) (enc x) acs 0 ∧ μ x ≤ k) (h : Typed P H (n + 1) t acs k) :
    ∃ (xs : List α) (v : Value), acs = [v] ∧ RD H (fun _ => True) (.sl z xs.length (xs.flatMap enc)) v ∧ (xs.map μ).sum + 1 ≤ k := by
  simp only [Typed, hu, hz] at h
  rcases h with ⟨rfl, rfl⟩ | ⟨b, len, cap, c, K, rfl, h1, h2, h3, rfl, h4⟩
  · exact ⟨[], _, rfl, .nil, by simp⟩
  · -- one after the other
    have key : ∀ m, m ≤ cap → ∃ xs : List α, xs.length = m ∧ RDs H (fun _ => True) (xs.flatMap enc) c 0 ∧ (xs.map μ).sum ≤ ((List.range m).map K).sum := by
      intro m
      induction m with
      | zero => intro _; exact ⟨[], rfl, ⟨by simp, fun i x v h => by simp at h⟩, by simp⟩
      | succ m ih =>
        intro hm
        obtain ⟨xs, e1, e2, e3⟩ := ih (by omega)
        have hmc : (m + 1) * z ≤ cap * z := Nat.mul_le_mul_right z hm
        have hmz : (m + 1) * z = m * z + z := by rw [Nat.add_mul, Nat.one_mul]
        obtain ⟨x, e4, e5⟩ := hel _ _ (by simp; omega) (h4 m (by omega))
        have hfl : (xs.flatMap enc).length = m * z := by rw [flatMap_len henc, e1]
        refine ⟨xs ++ [x], by simp [e1], ⟨?_, fun i d v hd hv => ?_⟩, ?_⟩
        · simp only [List.flatMap_append, List.length_append, hfl, List.flatMap_cons, List.flatMap_nil, List.append_nil, henc]
          omega
        · simp only [List.flatMap_append, List.flatMap_cons, List.flatMap_nil, List.append_nil] at hd
          by_cases hi : i < m * z
          · rw [List.getElem?_append_left (by omega)] at hd
            exact e2.2 i d v hd hv
          · rw [List.getElem?_append_right (by omega), hfl] at hd
            have hiz : i - m * z < z := by
              have := (List.getElem?_eq_some_iff.1 hd).1
              rw [henc] at this
              exact this
            refine e4.2 (i - m * z) d v hd ?_
            rw [Nat.zero_add, List.getElem?_take, if_pos hiz, List.getElem?_drop]
            rw [Nat.zero_add] at hv
            rw [show m * z + (i - m * z) = i by omega]
            exact hv
        · simp only [List.map_append, List.sum_append, List.map_cons, List.map_nil, List.sum_cons, List.sum_nil, List.range_succ]
          omega
    obtain ⟨xs, e1, e2, e3⟩ := key len h1
    refine ⟨xs, _, rfl, ?_, ?_⟩
    · have hfl : (xs.flatMap enc).length = len * z := by rw [flatMap_len henc, e1]
      subst e1
      exact .sl trivial h2 (.inl rfl) hz0 h1 hfl e2.1 e2.2
    · have : ((List.range len).map K).sum ≤ ((List.range cap).map K).sum := by
        obtain ⟨d, rfl⟩ : ∃ d, cap = len + d := ⟨cap - len, by omega⟩
        rw [List.range_add, List.map_append, List.sum_append]
        omega
      omega

theorem flatMap_bcs (l : List UInt8) : l.flatMap (fun b => [DV.sc (.int .u8 b.toNat)]) = bcs l := by
  induction l with
  | nil => rfl
  | cons a l ih => simp only [List.flatMap_cons, ih, bcs, List.map_cons, List.singleton_append]

theorem typed_bytes {P : Program} {H : AHeap} {n : Nat} {t e : TypeId} {k : Nat} {acs : List Value} (hu : P.underlying t = some (.slice e)) (he : P.underlying e = some (.int .u8)) (hz : P.cellsOf e = 1) (h : Typed P H (n + 2) t acs k) :
    ∃ (l : List UInt8) (v : Value), acs = [v] ∧ RD H (fun _ => True) (bytesD l) v ∧ l.length + 1 ≤ k := by
  obtain ⟨xs, v, h1, h2, h3⟩ := typed_slice (α := UInt8) (z := 1) hu hz (by decide) (fun b => [DV.sc (.int .u8 b.toNat)]) (fun _ => 1) (fun _ => rfl) (fun acs k _ ht => by
    simp only [Typed, he] at ht
    obtain ⟨⟨z, rfl, hw⟩, rfl⟩ := ht
    refine ⟨UInt8.ofNat z.toNat, ⟨by simp, fun i d v hd hv => ?_⟩, Nat.le_refl _⟩
    cases i with
    | zero =>
      simp at hd hv
      subst hd; subst hv
      have hwf : 0 ≤ z ∧ z < 256 := by
        simp [Lit.wf] at hw
        have := hw
        revert hw
        simp [IntKind.min, IntKind.max, IntKind.bits, IntKind.signed]
        omega
      have : max z 0 % 256 = z := by omega
      rw [this]
      exact .sc rfl
    | succ i => simp at hd) h
  rw [flatMap_bcs] at h2
  refine ⟨xs, v, h1, h2, ?_⟩
  have : (xs.map fun _ => 1).sum = xs.length := by
    clear h1 h2 h3
    induction xs with
    | nil => rfl
    | cons a l ih => simp only [List.map_cons, List.sum_cons, List.length_cons, ih]; omega
  omega

theorem flatMap_one {α : Type} (f : α → DV) (l : List α) : l.flatMap (fun x => [f x]) = l.map f := by
  induction l with
  | nil => rfl
  | cons a l ih => simp only [List.flatMap_cons, ih, List.map_cons, List.singleton_append]

theorem typed_lines {P : Program} {H : AHeap} {n : Nat} {t e u : TypeId} {k : Nat} {acs : List Value} (hu : P.underlying t = some (.slice e)) (he : P.underlying e = some (.slice u)) (hw : P.underlying u = some (.int .u8)) (hz : P.cellsOf e = 1) (hy : P.cellsOf u = 1)
    (h : Typed P H (n + 3) t acs k) : ∃ (ls : List (List UInt8)) (v : Value), acs = [v] ∧ RD H (fun _ => True) (linesD ls) v ∧ (ls.map fun l => l.length + 1).sum + 1 ≤ k := by
  obtain ⟨xs, v, h1, h2, h3⟩ := typed_slice (α := List UInt8) (z := 1) hu hz (by decide) (fun l => [bytesD l]) (fun l => l.length + 1) (fun _ => rfl) (fun acs k _ ht => by
    obtain ⟨l, v, rfl, h2, h3⟩ := typed_bytes he hw hy ht
    refine ⟨l, ⟨by simp, fun i d w hd hv => ?_⟩, h3⟩
    cases i with
    | zero => simp at hd hv; subst hd; subst hv; exact h2
    | succ i => simp at hd) h
  rw [flatMap_one] at h2
  exact ⟨xs, v, h1, h2, h3⟩

/-- A law that answers true. -/
theorem law_true {C : Ctx} {f : FuncId} {as : List PV} {vs : List Value} {H : AHeap} (h : FS C f as [] (fun r => r = .ret (bo true) [])) (ha : RVL H (fun _ => True) [] as vs) : ∃ H', evw C (.call f vs H) = some (.ret (.bool true) H') := by
  obtain ⟨x, os', v, H', B', Z', h1, h2, h3⟩ := h H (fun _ => True) [] vs ⟨rfl, fun k o h => by simp at h, fun j k b o1 o2 ⟨o, h1, _⟩ => by simp at h1, fun k b o ⟨o', h1, _⟩ => by simp at h1⟩ ha
  rcases h1 with ⟨h1, h4⟩ | ⟨_, h4⟩
  · cases h4
    cases h3 with | dv hd => cases hd with | sc _ => exact ⟨H', h1⟩
  · cases h4
end Go.Eng

namespace Go.Eng
open Go

theorem cells_of_laid {P : Program} {name : String} {d : DataW Unit} {rest : List (String × DataW Unit)} {W : World} (h : laidMet P ((name, d) :: rest) W) : ∃ (b : Nat) (cs : Array Value) (el : TypeId) (fz : Nat × Nat), W.heap[b]? = some (.cells cs el fz) := by
  obtain ⟨ps, ⟨g, t, cs, fuel, p, q, hg, ht, hvar, _⟩, _⟩ := h
  unfold World.var? at hvar
  rw [hg] at hvar
  simp only [Option.bind_some] at hvar
  split at hvar
  · rename_i cs' el fz hh
    exact ⟨g, cs', el, fz, hh⟩
  · cases hvar

theorem typedAll_cons {P : Program} {H : AHeap} {p : Nat} {t : TypeId} {ts : List TypeId} {avs : List Value} {k : Nat} (h : TypedAll P H p (t :: ts) avs k) :
    ∃ v vs acs k1 k2, avs = v :: vs ∧ v = ofCells P t acs ∧ Typed P H p t acs k1 ∧ TypedAll P H p ts vs k2 ∧ k = k1 + k2 := by
  cases avs with
  | nil => exact h.elim
  | cons v vs =>
    obtain ⟨acs, k1, k2, h1, h2, h3, h4⟩ := h
    exact ⟨v, vs, acs, k1, k2, rfl, h1, h2, h3, h4⟩

theorem typedAll_nil {P : Program} {H : AHeap} {p : Nat} {avs : List Value} {k : Nat} (h : TypedAll P H p [] avs k) : avs = [] := by
  cases avs with
  | nil => rfl
  | cons v vs => exact h.elim

/-- The cells of a datum without references. -/
def laidCells : DataW Unit → List Value
  | .lit (.int k n) => [.int k n]
  | .lit (.bool b) => [.bool b]
  | .lit (.string s) => [.string ⟨⟨s⟩⟩]
  | .agg l => laidCellsL l
  | _ => []
where laidCellsL : List (DataW Unit) → List Value
  | [] => []
  | d :: r => laidCells d ++ laidCellsL r

/-- The variables hold their data. -/
def layVars (P : Program) (l : List (String × DataW Unit)) (h : Array Obj) : Array Obj :=
  l.foldl (fun h x => match P.globalNamed x.1 with
    | some g => h.modify g fun o => match o with | .cells _ t fz => .cells ⟨laidCells x.2⟩ t fz | o => o
    | none => h) h

/-- THE CONTRACT, where no package-level variable is looked at. -/
theorem contract {A : Type} {enc : TypeId × Value → A} {C : Ctx} (hC : CtxOk C) (hG : C.G = []) {f : FuncId} {fn : Func} {c : Code} (hf : C.P.funcs[f]? = some fn) (hb : fn.body = some c) {s : ChangeSpec} {tb : TypeId} {p N : Nat}
    (hl : laidOutB C.P = true) (hts : (fn.params.toList.all fun t => C.P.readableRec t && decide (t < C.P.types.size)) = true) (hvars : s.vars = []) (hrt : fn.resultTypes = #[tb]) (htb : C.P.underlying tb = some .bool) (hpl : fn.params.toList.all (plainT C.P p) = true)
    {W : World} {base : Nat} {args : Array Value} {ds gs : List (DataW A)} {before : List MemPlace} (hval : ∀ (j : Nat) t v, fn.params[j]? = some t → args[j]? = some v → Value.okWide C.P W .any base t v)
    (hW : DataW.Whole enc C.P fn.params.toList s.vars false W args.toList ds gs before) (hdum : ∃ (b : Nat) (cs : Array Value) (el : TypeId) (fz : Nat × Nat), W.heap[b]? = some (.cells cs el fz))
    (hfn : s.fn A (ds ++ gs) = { results := [.lit (.bool true)], args := ds }) (hsmall : bulkAll ds ≤ N)
    (hlaw : ∀ (H : AHeap) (avs : List Value) (k : Nat), k ≤ N → TypedAll C.P H p fn.params.toList avs k → ∃ H', evw C (.call f avs H) = some (.ret (.bool true) H')) :
    Calls C.P f args W fun e W' => ∃ v, e = .returned v ∧ s.post enc C.P fn false true false false W args v W' := by
  have hW0 := hW
  obtain ⟨q, r, hA, hV, hps, hfz, hnd⟩ := hW0
  obtain ⟨m, H, avs, k, hlaid, hrel, htyped, hk⟩ := lay_args (P := C.P) (enc := enc) (Fr := old W) (wf := W) (base := base) (fun k hk => hk) hdum p fn.params.toList args.toList ds q hA hpl (fun j t v ht hv => hval j t v (by simpa using ht) (by simpa using hv)) #[] #[] (R.start W)
  obtain ⟨H', hev⟩ := hlaw H avs k (Nat.le_trans hk hsmall) htyped
  have hg : GRel m C.G := by rw [hG]; intro g b h; cases h
  refine (top hC hf hb hlaid.1 hg hrel hev).mono fun e W' ⟨he, hbel⟩ => ⟨.bool true, he, ?_⟩
  exact post_true hl hts hvars hrt htb hW hfn hbel
end Go.Eng
