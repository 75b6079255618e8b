/-
  An interpreter of the model over a heap of its own, and the rules by which its answers are found: part 4.
-/
import Derived.Test.YtinipmoepcgonaaDoorEngC
set_option linter.unusedSimpArgs false
set_option linter.unusedVariables false

namespace Go.Eng
open Go

section
variable {C : Ctx} {F : Fr} {p : PS} {s : ASt} {B : Blks} {Z : Nat → Prop} {fn : FuncId} {rd : Option Nat}

/-- What is static, as the region goes on. -/
def StatOk (st : List Nat) (p : PS) (s : ASt) (C : Ctx) (H0 : AHeap) (Z0 : Nat → Prop) (B0 : Blks) : Prop :=
  ∀ x y v, statO st x = true → pev p.tm x = some y → aeval C.G s.tmps x = some v → RV H0 Z0 B0 y v

theorem StatOk.put {st : List Nat} {H0 : AHeap} {Z0 : Nat → Prop} {B0 : Blks} (h : StatOk st p s C H0 Z0 B0) {d : Option Tmp} {y : PV} {v : Value} {H' : AHeap} {O' : List Ob} {st' : List Nat} (hd : okD p d) (hnt : s.tmps.length = p.nt)
    (hs : (d = none ∧ st' = st) ∨ ∃ e, d = some e ∧ ((st' = e :: st ∧ RV H0 Z0 B0 y v) ∨ st' = st.filter (fun j => !(j == e)))) : StatOk st' (({ p with ob := O' } : PS).put d y) (s.put d v H') C H0 Z0 B0 := by
  intro x z w hx hz hw
  cases x with
  | tmp t =>
    cases d with
    | none =>
      rcases hs with ⟨_, rfl⟩ | ⟨e, h1, _⟩
      · exact h (.tmp t) z w hx hz hw
      · cases h1
    | some d =>
      have hs : (st' = d :: st ∧ RV H0 Z0 B0 y v) ∨ st' = st.filter (fun j => !(j == d)) := by
        rcases hs with ⟨h1, _⟩ | ⟨e, h1, h2⟩
        · cases h1
        · cases h1; exact h2
      simp only [pev, PS.put, List.lookup_cons] at hz
      simp only [aeval, ASt.put] at hw
      simp only [statO] at hx
      by_cases htd : t = d
      · subst htd
        simp only [BEq.rfl] at hz
        cases hz
        rw [List.getElem?_set_self (by rw [hnt]; exact hd)] at hw
        cases hw
        rcases hs with ⟨_, hr⟩ | rfl
        · exact hr
        · simp at hx
      · have hbeq : (t == d) = false := by simpa using htd
        simp only [hbeq] at hz
        rw [List.getElem?_set_ne (Ne.symm htd)] at hw
        refine h (.tmp t) z w ?_ hz hw
        rcases hs with ⟨rfl, _⟩ | rfl
        · simp only [statO]
          simp [htd] at hx
          simpa using hx
        · simp at hx
          simpa [statO] using hx.1
  | const c =>
    refine h (.const c) z w rfl ?_ ?_
    · cases d <;> exact hz
    · cases d <;> exact hw
  | func f =>
    refine h (.func f) z w rfl ?_ ?_
    · cases d <;> exact hz
    · cases d <;> exact hw
  | global g => cases hx

theorem stNext_cases (st : List Nat) (g : Operand → Option PV) (o : Oper) : (o.dst = none ∧ stNext st g o = st) ∨ ∃ e, o.dst = some e ∧ ((stNext st g o = e :: st ∧ isStat st g o = true) ∨ stNext st g o = st.filter (fun j => !(j == e))) := by
  unfold stNext
  cases o.dst with
  | none => exact .inl ⟨rfl, rfl⟩
  | some d =>
    refine .inr ⟨d, rfl, ?_⟩
    simp only
    split
    · rename_i h; exact .inl ⟨rfl, h⟩
    · exact .inr rfl

theorem isStat_light {st : List Nat} {g : Operand → Option PV} {o : Oper} {P : Program} (h : isStat st g o = true) : isAlloc P o = false ∧ heavy o = false := by
  obtain ⟨dst, op, type, pos, after, guard⟩ := o
  unfold isStat at h
  split at h <;> first | (rename_i hop; simp only at hop; subst hop; exact ⟨rfl, rfl⟩) | cases h

theorem wpD_run {ops : Array Oper} {base N : Nat} (hN : rank C.P ops ops.size = N) (hb : F.N ≤ base) {s0 : ASt} {Z0 : Nat → Prop} {B0 : Blks} {Q : PS → List (PS × Ev) → Prop} :
    ∀ (l : List Oper) (i : Nat) (p : PS) (s : ASt) (B : Blks) (Z : Nat → Prop) (st : List Nat) (log0 : List (PS × Ev)), (∀ j, l[j]? = ops[i + j]?) → i + l.length = ops.size → StB F p s B Z → StatOk st p s C s0.H Z0 B0 →
      (∀ b c st, Z0 b → s0.H[b]? = some (.cells c st) → Z b ∧ s.H[b]? = some (.cells c st)) → (∀ r, rank C.P ops i ≤ r → r < N → s.H[base + r]? = some .hole) → wpD C ops l p st log0 Q →
      ∃ tr s1 p1 log, atrace C (evw C) ops base (List.range' i l.length) s = some (s :: tr) ∧ (s :: tr).getLast? = some s1 ∧ Run C F ops base N s0 Z0 i B Z log (s :: tr) ∧ PSt F p1 s1 ∧ Q p1 (log0 ++ log) ∧ log.length = l.length
  | [], i, p, s, B, Z, st, log0, _, _, h, _, _, _, hw => ⟨[], s, p, [], rfl, rfl, .nil, ⟨B, Z, h⟩, by rw [List.append_nil]; exact hw, rfl⟩
  | o :: r, i, p, s, B, Z, st, log0, hl, hsz, h, hst, hz0, hh, hw => by
    have ho : ops[i]? = some o := by simpa using (hl 0).symm
    have hlr : ∀ j, r[j]? = ops[i + 1 + j]? := fun j => by have := hl (j + 1); rw [show i + 1 + j = i + (j + 1) by omega]; simpa using this
    have hsr : i + 1 + r.length = ops.size := by simp at hsz; omega
    have hri : rank C.P ops (i + 1) = rank C.P ops i + (if isAlloc C.P o then 1 else 0) := by simp [rank, allocAt, ho]
    have hrN : rank C.P ops (i + 1) ≤ N := by rw [← hN]; exact rank_mono C.P ops _ _ (by omega)
    -- one step, then the rest
    have go : ∀ {s' : ASt} {p' : PS} {B' : Blks} {Z' : Nat → Prop} {st' : List Nat} {ev : Ev}, astep C (evw C) ops (some (base + rank C.P ops i)) i s = some (.normal, s') → StB F p' s' B' Z' → StatOk st' p' s' C s0.H Z0 B0 →
        Fact C F ops base N s0 Z0 i p ev s s' B B' Z Z' → (∀ r, rank C.P ops (i + 1) ≤ r → r < N → s'.H[base + r]? = some .hole) → wpD C ops r p' st' (log0 ++ [(p, ev)]) Q →
        ∃ tr s1 p1 log, atrace C (evw C) ops base (List.range' i (o :: r).length) s = some (s :: tr) ∧ (s :: tr).getLast? = some s1 ∧ Run C F ops base N s0 Z0 i B Z log (s :: tr) ∧ PSt F p1 s1 ∧ Q p1 (log0 ++ log) ∧ log.length = (o :: r).length := by
      intro s' p' B' Z' st' ev h1 h2 h3 h4 h5 h6
      obtain ⟨tr, s1, p1, log, e1, e2, e3, e4, e5, e6⟩ := wpD_run hN hb r (i + 1) p' s' B' Z' st' (log0 ++ [(p, ev)]) hlr hsr h2 h3 (fun b c st hz hc => by
        have := hz0 b c st hz hc
        exact h4.zmono b c st this.1 this.2) h5 h6
      refine ⟨s' :: tr, s1, p1, (p, ev) :: log, ?_, ?_, .cons h4 e3, e4, by simpa using e5, by simp [e6]⟩
      · simp only [List.length_cons, List.range'_succ, atrace, h1, e1]
      · rw [List.getLast?_cons_cons]; exact e2
    rcases wpg_ok h hw with ⟨ha, hy⟩ | ⟨ha, hn⟩
    · -- carried out
      have fin : ∀ {v : Value} {H' : AHeap} {x : PV} {O' : PS} {B' : Blks} {Z' : Nat → Prop} {ev : Ev}, aout C (evw C) (some (base + rank C.P ops i)) o (aeval C.G s.tmps) s.H = some (true, v, H') → StB F O' { s with H := H' } B' Z' → O'.tm = p.tm → O'.nt = p.nt → RV H' Z' B' x v →
          (∃ D, B' = B ++ D) → (∀ b c st, Z b → s.H[b]? = some (.cells c st) → Z' b) → (∀ b, b < s.H.size → some b ≠ (if isAlloc C.P o then some (base + rank C.P ops i) else none) → H'[b]? ≠ s.H[b]? → ∃ k oo, Live p.ob k ∧ B[k]? = some (some (b, oo))) →
          (isAlloc C.P o = false → heavy o = false → ∃ φ, pl C.P (pev p.tm) p.ob o = some (φ, x) ∧ φ ∧ alight C.P (aeval C.G s.tmps) s.H o = some v) →
          (match ev with
            | .skip => False
            | .other => isAlloc C.P o = false ∧ heavy o = false ∧ areads (aeval C.G s.tmps) o = none
            | .alloc k => isAlloc C.P o = true ∧ B'[k]? = some (some (base + rank C.P ops i, 0))
            | .read (some k) => isAlloc C.P o = false ∧ heavy o = false ∧ (areads (aeval C.G s.tmps) o = none ∨ ∃ b full oo c st, areads (aeval C.G s.tmps) o = some (b, full) ∧ B[k]? = some (some (b, oo)) ∧ s.H[b]? = some (.cells c st))
            | .read none => isAlloc C.P o = false ∧ heavy o = false ∧ (areads (aeval C.G s.tmps) o = none ∨ ∃ b full c st, areads (aeval C.G s.tmps) o = some (b, full) ∧ Z b ∧ s.H[b]? = some (.cells c st))
            | .readS => isAlloc C.P o = false ∧ heavy o = false ∧ (areads (aeval C.G s.tmps) o = none ∨ ∃ b full c st, areads (aeval C.G s.tmps) o = some (b, full) ∧ Z0 b ∧ s0.H[b]? = some (.cells c st))
            | .touch ks => isAlloc C.P o = false ∧ heavy o = true ∧ ∀ b, b < s.H.size → H'[b]? ≠ s.H[b]? → ∃ k oo, k ∈ ks ∧ Live p.ob k ∧ B[k]? = some (some (b, oo))) →
          okD p o.dst → wpD C ops r (O'.put o.dst x) (stNext st (pev p.tm) o) (log0 ++ [(p, ev)]) Q →
          ∃ tr s1 p1 log, atrace C (evw C) ops base (List.range' i (o :: r).length) s = some (s :: tr) ∧ (s :: tr).getLast? = some s1 ∧ Run C F ops base N s0 Z0 i B Z log (s :: tr) ∧ PSt F p1 s1 ∧ Q p1 (log0 ++ log) ∧ log.length = (o :: r).length := by
        intro v H' x p' B' Z' ev h1 h2 htm hnt h3 h4 h5 h6 h7 h8 h9 h10
        obtain ⟨nt', m', tm', ob'⟩ := p'
        simp only at htm hnt
        subst htm hnt
        have hput := h2.putD (x := x) (v := v) (d := o.dst) h9 h3
        have hstat : StatOk (stNext st (pev p.tm) o) (({ nt := p.nt, m := m', tm := p.tm, ob := ob' } : PS).put o.dst x) (s.put o.dst v H') C s0.H Z0 B0 := by
          have hst2 : StatOk st { nt := p.nt, m := m', tm := p.tm, ob := ob' } s C s0.H Z0 B0 := hst
          refine StatOk.put (p := { nt := p.nt, m := m', tm := p.tm, ob := ob' }) (O' := ob') hst2 h9 h.nt ?_
          rcases stNext_cases st (pev p.tm) o with q | ⟨e, q0, ⟨q1, q2⟩ | q1⟩
          · exact .inl q
          · refine .inr ⟨e, q0, .inl ⟨q1, ?_⟩⟩
            have hli := isStat_light (P := C.P) q2
            obtain ⟨φ, t1, t2, t3⟩ := h7 hli.1 hli.2
            exact isStat_ok (C := C) h hst (fun b c st hz hc => (hz0 b c st hz hc).2) q2 t1 t2 t3
          · exact .inr ⟨e, q0, .inr q1⟩
        have hzm : ∀ b c st, Z b → s.H[b]? = some (.cells c st) → Z' b ∧ H'[b]? = some (.cells c st) := fun b c st hz hc => by
          refine ⟨h5 b c st hz hc, (Classical.byContradiction fun hne => ?_ : H'[b]? = s.H[b]?).trans hc⟩
          by_cases hbi : some b = (if isAlloc C.P o then some (base + rank C.P ops i) else none)
          · split at hbi
            · rename_i hal
              cases hbi
              rw [hh _ (Nat.le_refl _) (by rw [hri, if_pos hal] at hrN; omega)] at hc
              cases hc
            · cases hbi
          · obtain ⟨k, oo, k1, k2⟩ := h6 b (lt_of_get hc) hbi hne
            exact (h.lz k b oo k1 k2).1 hz
        have hhole : ∀ r, rank C.P ops (i + 1) ≤ r → r < N → H'[base + r]? = some .hole := fun r hr1 hr2 => by
          have hold := hh r (by rw [hri] at hr1; omega) hr2
          refine (Classical.byContradiction fun hne => ?_ : H'[base + r]? = s.H[base + r]?).trans hold
          obtain ⟨k, oo, k1, k2⟩ := h6 _ (lt_of_get hold) (by
            split
            · rename_i hal; rw [hri, if_pos hal] at hr1; simp; omega
            · simp) hne
          obtain ⟨ob, k3, k4⟩ := k1
          have := h.ob k ob k3
          cases ob with
          | gone => cases k4
          | fro z cs => cases k4
          | row z cs =>
            rcases this with ⟨b', o', vs, f1, f2, _⟩ | ⟨f1, _⟩
            · rw [k2] at f1; cases f1; rw [hold] at f2; cases f2
            · rw [k2] at f1; cases f1
          | var cs =>
            obtain ⟨b', o', vs, f1, f2, _⟩ := this
            rw [k2] at f1; cases f1; rw [hold] at f2; cases f2
          | itr t pos =>
            obtain ⟨b', f1, f2⟩ := this
            rw [k2] at f1; cases f1; rw [hold] at f2; cases f2
        refine go (s' := s.put o.dst v H') ?_ hput hstat ⟨h, h4, hh, ?_, o, ho, .inr ?_⟩ ?_ h10
        · simp only [astep, ho, ha, if_true, aop1, h1]
        · cases o.dst <;> exact hzm
        · cases ev with
          | touch ks => cases o.dst <;> exact h8
          | read k => cases k <;> exact h8
          | _ => exact h8
        · cases o.dst <;> exact hhole
      -- which operation
      have gen : (match pop C.P o p with
          | some (φ, O', y) => φ ∧ okD p o.dst ∧ wpD C ops r ({ p with ob := O' }.put o.dst y) (stNext st (pev p.tm) o)
              (log0 ++ [(p, if isAlloc C.P o then .alloc p.ob.length else if heavy o then .touch (ptouch (pev p.tm) o) else preads st (pev p.tm) o)]) Q
          | none => False) → ∃ tr s1 p1 log, atrace C (evw C) ops base (List.range' i (o :: r).length) s = some (s :: tr) ∧ (s :: tr).getLast? = some s1 ∧ Run C F ops base N s0 Z0 i B Z log (s :: tr) ∧ PSt F p1 s1 ∧ Q p1 (log0 ++ log) ∧ log.length = (o :: r).length := by
        intro hy
        split at hy
        · rename_i φ O' y hp
          obtain ⟨hφ, hd, hrest⟩ := hy
          have hat : AtOk F s.H (if isAlloc C.P o then some (base + rank C.P ops i) else none) := by
            split
            · rename_i hal
              exact ⟨hh _ (Nat.le_refl _) (by rw [hri, if_pos hal] at hrN; omega), by omega⟩
            · trivial
          obtain ⟨v, H', B', Z', e1, e2, e3, e4, e5, e6, e7, e8⟩ := pop_ok (rec := evw C) h hat hp hφ
          have e1' : aout C (evw C) (some (base + rank C.P ops i)) o (aeval C.G s.tmps) s.H = some (true, v, H') := by
            by_cases hal : isAlloc C.P o = true
            · rw [if_pos hal] at e1; exact e1
            · rw [aout_at (by simpa using hal)]
              rw [if_neg hal] at e1; exact e1
          have hlight : isAlloc C.P o = false → heavy o = false → ∃ φ, pl C.P (pev p.tm) p.ob o = some (φ, y) ∧ φ ∧ alight C.P (aeval C.G s.tmps) s.H o = some v := fun g1 g2 => by
            unfold pop at hp
            rw [if_neg (by simp [g1]), if_neg (by simp [g2]), Option.map_eq_some_iff] at hp
            obtain ⟨⟨ψ, y1⟩, t1, t2⟩ := hp
            cases t2
            refine ⟨_, t1, hφ, ?_⟩
            simp only [aout, g1, g2, Bool.false_eq_true, if_false] at e1'
            cases hal : alight C.P (aeval C.G s.tmps) s.H o with
            | none => rw [hal] at e1'; cases e1'
            | some w => rw [hal] at e1'; cases e1'; rfl
          refine fin e1' e2 rfl rfl e3 e4 e7 (fun b hb hne hch => let ⟨k, oo, q1, q2, q3⟩ := e6 b hb hne hch; ⟨k, oo, q2, q3⟩) hlight ?_ hd hrest
          by_cases hal : isAlloc C.P o = true
          · simp only [if_pos hal]
            refine ⟨hal, ?_⟩
            have := e8 hal
            rw [if_pos hal] at this
            exact this
          · have hal' : isAlloc C.P o = false := by simpa using hal
            simp only [if_neg hal]
            by_cases hhv : heavy o = true
            · simp only [if_pos hhv]
              refine ⟨hal', hhv, fun b hb hch => ?_⟩
              obtain ⟨k, oo, q1, q2, q3⟩ := e6 b hb (by rw [if_neg hal]; simp) hch
              exact ⟨k, oo, q1, q2, q3⟩
            · have hhv' : heavy o = false := by simpa using hhv
              simp only [if_neg hhv]
              obtain ⟨ψ, t1, t2, t3⟩ := hlight hal' hhv'
              have := preads_ok (C := C) (st := st) h hst t1
              split at this
              · rename_i hpr; rw [hpr]; exact ⟨hal', hhv', this⟩
              · rename_i k hpr; rw [hpr]; exact ⟨hal', hhv', this⟩
              · rename_i hpr; rw [hpr]; exact ⟨hal', hhv', this⟩
              · rename_i hpr; rw [hpr]; exact ⟨hal', hhv', this⟩
              · exact this.elim
        · exact hy.elim
      split at hy
      · rename_i f args ats hop
        have hal : isAlloc C.P o = false := by unfold isAlloc; rw [hop]
        have hhv : heavy o = true := by unfold heavy; rw [hop]
        split at hy
        · rename_i g first cap as hf has
          have hg := pev_ok (C := C) h
          obtain ⟨vf, e1, e2⟩ := hg f _ hf
          obtain ⟨vs, e3, e4⟩ := mapOpt_ok hg has
          cases e2 with
          | fn l1 l2 l3 l4 =>
            rename_i us ws
            have hall : RVL s.H Z B (first ++ as ++ cap) (us ++ vs ++ ws) := (RVL.append ⟨l1, l3⟩ e4).append ⟨l2, l4⟩
            obtain ⟨v, H', x, p', ks, B', Z', t1, t2, t3, ⟨t4, t5⟩, htm, t6, t7, t8, t9⟩ := callD_ok h hall hy
            refine fin (ev := .touch ks) ?_ t2 htm.1 htm.2 t3 t6 t9 (fun b hb _ hch => let ⟨k, oo, q1, q2, q3⟩ := t8 b hb hch; ⟨k, oo, q2, q3⟩) (fun h1 h2 => by rw [hhv] at h2; cases h2) ⟨hal, hhv, t8⟩ t4 t5
            simp only [aout, hal, Bool.false_eq_true, if_false, hhv, if_true, aheavy, hop, e1, e3, t1]
        · exact hy.elim
      · exact gen hy
    · -- passed over
      have hput := h.putD hn.1 (RV.bad (v := undef))
      have hstat : StatOk (match o.dst with | some d => st.filter (fun j => !(j == d)) | none => st) (p.put o.dst .bad) (s.put o.dst undef s.H) C s0.H Z0 B0 := by
        refine StatOk.put (O' := p.ob) hst hn.1 h.nt ?_
        cases o.dst with
        | none => exact .inl ⟨rfl, rfl⟩
        | some d => exact .inr ⟨d, rfl, .inr rfl⟩
      have hri' : rank C.P ops i ≤ rank C.P ops (i + 1) := by rw [hri]; omega
      refine go (s' := s.put o.dst undef s.H) ?_ hput hstat ⟨h, ⟨[], by simp⟩, hh, ?_, o, ho, .inl ha⟩ ?_ hn.2
      · simp only [astep, ho, ha, Bool.false_eq_true, if_false]
      · intro b c st hz hc
        cases o.dst <;> exact ⟨hz, hc⟩
      · intro r h1 h2
        have := hh r (by omega) h2
        cases o.dst <;> exact this

theorem heavy_alloc {P : Program} {o : Oper} (h : heavy o = true) : isAlloc P o = false := by
  obtain ⟨dst, op, type, pos, after, guard⟩ := o
  cases op <;> first | rfl | (simp [heavy] at h)

theorem stOf_same {H H' : AHeap} {b : Nat} (h : H'[b]? = H[b]?) : stOf H' b = stOf H b := by
  unfold stOf; rw [h]

theorem chkP_ok {ops : Array Oper} {base N : Nat} {Z : Nat → Prop} {B : Blks} {log : List (PS × Ev)} {tr : List ASt} {rk : List Nat} (hN : rank C.P ops ops.size = N) (hrun : Run C F ops base N s Z 0 B Z log (s :: tr)) (hlen : log.length = ops.size)
    {i h : Nat} {oi oh : Oper} (hi : ops[i]? = some oi) (hh : ops[h]? = some oh) (hheavy : heavy oh = true) (hrk : rk.getD i 0 = rank C.P ops i) (hne : i ≠ h) (hd : DC log (i, h) = true) : chkP C ops base rk (s :: tr) (i, h) = true := by
  have hil : i < ops.size := (Array.getElem?_eq_some_iff.1 hi).1
  have hhl : h < ops.size := (Array.getElem?_eq_some_iff.1 hh).1
  obtain ⟨⟨pi, ei⟩, hli⟩ : ∃ x, log[i]? = some x := ⟨log[i]'(by omega), by simp [hlen, hil]⟩
  obtain ⟨⟨ph, eh⟩, hlh⟩ : ∃ x, log[h]? = some x := ⟨log[h]'(by omega), by simp [hlen, hhl]⟩
  obtain ⟨gh, gh', C1, C1', W1, W1', t1, t2, Gh, _, tc⟩ := hrun.get hlh
  rw [Nat.zero_add] at Gh
  obtain ⟨gi, gi', D1, D1', V1, V1', u1, u2, Gi, _, uc⟩ := hrun.get hli
  rw [Nat.zero_add] at Gi
  unfold chkP
  simp only [hi, hh, t1, t2, u1, hrk]
  cases hai : awanted ops oi gi.tmps
  · simp
  cases hah : awanted ops oh gh.tmps
  · simp
  simp only [Bool.not_true, Bool.false_or]
  obtain ⟨o1, q1, q2⟩ := Gi.ev
  rw [hi] at q1; cases q1
  obtain ⟨o2, q3, q4⟩ := Gh.ev
  rw [hh] at q3; cases q3
  have q2 := q2.resolve_left (by simp [hai])
  have q4 := q4.resolve_left (by simp [hah])
  obtain ⟨ks, rfl⟩ : ∃ ks, eh = .touch ks := by
    cases eh with
    | touch ks => exact ⟨ks, rfl⟩
    | skip => exact q4.elim
    | other => rw [q4.2.1] at hheavy; cases hheavy
    | readS => rw [q4.2.1] at hheavy; cases hheavy
    | read k => cases k <;> (rw [q4.2.1] at hheavy; cases hheavy)
    | alloc k => rw [heavy_alloc hheavy] at q4; cases q4.1
  have ht := q4.2.2
  have same : ∀ {b : Nat} {c : List Value} {st : St} (full : Bool), gh.H[b]? = some (.cells c st) → gh'.H[b]? = some (.cells c st) → (if full = true then obeq gh.H[b]? gh'.H[b]? else stOf gh.H b == stOf gh'.H b) = true := by
    intro b c st full h1 h2
    cases full
    · simp only [Bool.false_eq_true, if_false]
      rw [stOf_same (h2.trans h1.symm)]
      simp
    · simp only [if_true, h1, h2, obeq_refl]
  unfold DC at hd
  simp only [hli, hlh] at hd
  cases ei with
  | skip => exact q2.elim
  | other => simp only [q2.1, Bool.false_eq_true, if_false, q2.2.2]
  | touch ks2 => cases hd
  | readS =>
    simp only [q2.1, Bool.false_eq_true, if_false]
    rcases q2.2.2 with e | ⟨b, full, c, st, e, e1, e2⟩
    · rw [e]
    · rw [e]
      have := tc b c st e1 e2
      exact same full this.2 (zone_same Gh.st this.1 this.2 ht)
  | alloc k =>
    simp only [q2.1, if_true]
    by_cases hlt : h < i
    · rw [if_pos hlt]
      have hr : rank C.P ops i < N := by
        have h1 : rank C.P ops (i + 1) ≤ N := by rw [← hN]; exact rank_mono C.P ops _ _ (by omega)
        have h2 : rank C.P ops (i + 1) = rank C.P ops i + 1 := by simp [rank, allocAt, hi, q2.1]
        omega
      rw [Gh.hole _ (rank_mono C.P ops _ _ (by omega)) hr]
      rfl
    · rw [if_neg hlt]
      simp only [show decide (h < i) = false by simpa using hlt, Bool.false_or, Bool.and_eq_true, Bool.not_eq_true'] at hd
      obtain ⟨si, si', Bi, Bi', Zi, Zi', sh, sh', Bh, Bh', Zh, Zh', a1, a2, Fi, a3, a4, Fh, ⟨D, a5⟩, a6⟩ := hrun.two (show i < h by omega) hli hlh
      rw [Nat.zero_add] at Fi Fh
      rw [u1] at a1; cases a1
      rw [t1] at a3; cases a3
      rw [t2] at a4; cases a4
      obtain ⟨o3, r1, r2⟩ := Fi.ev
      rw [hi] at r1; cases r1
      have r2 := r2.resolve_left (by simp [hai])
      obtain ⟨o4, r3, r4⟩ := Fh.ev
      rw [hh] at r3; cases r3
      have r4 := r4.resolve_left (by simp [hah])
      have hk : Bh[k]? = some (some (base + rank C.P ops i, 0)) := by rw [a5]; exact append_some r2.2
      obtain ⟨c, st, m1, m2⟩ := not_touched Fh.st hd.1 hd.2 hk r4.2.2
      rw [m1, m2]
      exact obeq_refl c st
  | read k =>
    cases k with
    | some k =>
      simp only [q2.1, Bool.false_eq_true, if_false]
      simp only [Bool.and_eq_true, Bool.not_eq_true'] at hd
      by_cases hlt : i < h
      · obtain ⟨si, si', Bi, Bi', Zi, Zi', sh, sh', Bh, Bh', Zh, Zh', a1, a2, Fi, a3, a4, Fh, ⟨D, a5⟩, a6⟩ := hrun.two hlt hli hlh
        rw [Nat.zero_add] at Fi Fh
        rw [u1] at a1; cases a1
        rw [t1] at a3; cases a3
        rw [t2] at a4; cases a4
        obtain ⟨o3, r1, r2⟩ := Fi.ev
        rw [hi] at r1; cases r1
        have r2 := r2.resolve_left (by simp [hai])
        obtain ⟨o4, r3, r4⟩ := Fh.ev
        rw [hh] at r3; cases r3
        have r4 := r4.resolve_left (by simp [hah])
        rcases r2.2.2 with e | ⟨b, full, oo, c, st, e, e1, e2⟩
        · rw [e]
        · rw [e]
          obtain ⟨D', a7⟩ := Fi.pre
          have hk : Bh[k]? = some (some (b, oo)) := by rw [a5, a7]; exact append_some (append_some e1)
          obtain ⟨c, st, m1, m2⟩ := not_touched Fh.st hd.1 hd.2 hk r4.2.2
          exact same full m1 m2
      · obtain ⟨sh, sh', Bh, Bh', Zh, Zh', si, si', Bi, Bi', Zi, Zi', a1, a2, Fh, a3, a4, Fi, ⟨D, a5⟩, a6⟩ := hrun.two (show h < i by omega) hlh hli
        rw [Nat.zero_add] at Fi Fh
        rw [t1] at a1; cases a1
        rw [t2] at a2; cases a2
        rw [u1] at a3; cases a3
        obtain ⟨o3, r1, r2⟩ := Fi.ev
        rw [hi] at r1; cases r1
        have r2 := r2.resolve_left (by simp [hai])
        obtain ⟨o4, r3, r4⟩ := Fh.ev
        rw [hh] at r3; cases r3
        have r4 := r4.resolve_left (by simp [hah])
        rcases r2.2.2 with e | ⟨b, full, oo, c, st, e, e1, e2⟩
        · rw [e]
        · rw [e]
          obtain ⟨D', a7⟩ := Fh.pre
          have hkl : k < ph.ob.length := by
            have := hd.1
            unfold there at this
            cases ho : ph.ob[k]? with
            | none => rw [ho] at this; cases this
            | some o => exact (List.getElem?_eq_some_iff.1 ho).1
          have hk : Bh[k]? = some (some (b, oo)) := by
            have hkB : k < Bh.length := by rw [Fh.st.bl]; exact hkl
            rw [a5, a7, List.append_assoc, List.getElem?_append_left hkB] at e1
            exact e1
          obtain ⟨c, st, m1, m2⟩ := not_touched Fh.st hd.1 hd.2 hk r4.2.2
          exact same full m1 m2
    | none =>
      simp only [q2.1, Bool.false_eq_true, if_false]
      have hlt : i < h := by simpa using hd
      obtain ⟨si, si', Bi, Bi', Zi, Zi', sh, sh', Bh, Bh', Zh, Zh', a1, a2, Fi, a3, a4, Fh, ⟨D, a5⟩, a6⟩ := hrun.two hlt hli hlh
      rw [Nat.zero_add] at Fi Fh
      rw [u1] at a1; cases a1
      rw [t1] at a3; cases a3
      rw [t2] at a4; cases a4
      obtain ⟨o3, r1, r2⟩ := Fi.ev
      rw [hi] at r1; cases r1
      have r2 := r2.resolve_left (by simp [hai])
      obtain ⟨o4, r3, r4⟩ := Fh.ev
      rw [hh] at r3; cases r3
      have r4 := r4.resolve_left (by simp [hah])
      rcases r2.2.2 with e | ⟨b, full, c, st, e, e1, e2⟩
      · rw [e]
      · rw [e]
        have m := Fi.zmono b c st e1 e2
        have m2 := a6 b c st m.1 m.2
        exact same full m2.2 (zone_same Fh.st m2.1 m2.2 r4.2.2)

theorem chkL_ok {ops : Array Oper} {base N : Nat} {Z : Nat → Prop} {B : Blks} {log : List (PS × Ev)} {tr : List ASt} {rk : List Nat} (hrun : Run C F ops base N s Z 0 B Z log (s :: tr)) (hlen : log.length = ops.size)
    {i : Nat} {oi : Oper} (hi : ops[i]? = some oi) (h1 : heavy oi = false) (h2 : isAlloc C.P oi = false) (hrk : rk.getD i 0 = rank C.P ops i) : chkL C ops base N rk (s :: tr) i = true := by
  have hil : i < ops.size := (Array.getElem?_eq_some_iff.1 hi).1
  obtain ⟨⟨pi, ei⟩, hli⟩ : ∃ x, log[i]? = some x := ⟨log[i]'(by omega), by simp [hlen, hil]⟩
  obtain ⟨gi, gi', D1, D1', V1, V1', u1, u2, Gi, _, uc⟩ := hrun.get hli
  rw [Nat.zero_add] at Gi
  unfold chkL
  simp only [hi, u1, hrk]
  cases hai : awanted ops oi gi.tmps
  · simp
  simp only [Bool.not_true, Bool.false_or]
  obtain ⟨o1, q1, q2⟩ := Gi.ev
  rw [hi] at q1; cases q1
  have q2 := q2.resolve_left (by simp [hai])
  have fin : ∀ {b : Nat} {full : Bool} {c : List Value} {st : St}, areads (aeval C.G gi.tmps) oi = some (b, full) → gi.H[b]? = some (.cells c st) →
      (match areads (aeval C.G gi.tmps) oi with | none => true | some (blk, _) => decide (blk < base + rank C.P ops i) || decide (base + N ≤ blk)) = true := by
    intro b full c st e1 e2
    rw [e1]
    simp only [Bool.or_eq_true, decide_eq_true_eq]
    refine Classical.byContradiction fun hn => ?_
    obtain ⟨r, rfl⟩ : ∃ r, b = base + r := ⟨b - base, by omega⟩
    rw [Gi.hole r (by omega) (by omega)] at e2
    cases e2
  cases ei with
  | skip => exact q2.elim
  | other => rw [q2.2.2]
  | touch ks => rw [h1] at q2; cases q2.2.1
  | alloc k => rw [h2] at q2; cases q2.1
  | readS =>
    rcases q2.2.2 with e | ⟨b, full, c, st, e, e1, e2⟩
    · rw [e]
    · exact fin e (uc b c st e1 e2).2
  | read k =>
    cases k with
    | none =>
      rcases q2.2.2 with e | ⟨b, full, c, st, e, e1, e2⟩
      · rw [e]
      · exact fin e e2
    | some k =>
      rcases q2.2.2 with e | ⟨b, full, oo, c, st, e, e1, e2⟩
      · rw [e]
      · exact fin e e2

theorem T.drawD {id : Nat} {ops : Array Oper} {Q : PEx → PS → Prop} (hst : drawStat C.P ops = true) {prs : List (Nat × Nat)} (hpr : pairsOf C.P ops = prs)
    (h : wpD C ops ops.toList p (p.tm.map (·.1)) [] (fun p' log => prs.all (DC log) = true ∧ Q .normal p')) : T C fn rd (.region id ops true) p Q := by
  rintro F s ⟨B, Z, hs⟩
  let N := rank C.P ops ops.size
  let s0 : ASt := { s with H := holes s.H N }
  have hsz : s.H.size ≤ (holes s.H N).size := by simp [holes]
  have hold : ∀ b, b < s.H.size → (holes s.H N)[b]? = s.H[b]? := fun b hb => by unfold holes; rw [Array.getElem?_append, if_pos hb]
  have hs0 : StB F p s0 B Z := hs.junk hsz fun b hb hne => absurd (hold b hb) hne
  have hhole : ∀ r, r < N → s0.H[s.H.size + r]? = some .hole := fun r hr => by
    show (holes s.H N)[s.H.size + r]? = some .hole
    unfold holes
    rw [Array.getElem?_append, if_neg (by omega), Nat.add_sub_cancel_left]
    simp [hr]
  have hstat : StatOk (p.tm.map (·.1)) p s0 C s0.H Z B := by
    intro x y v hx hy hv
    obtain ⟨w, e1, e2⟩ := pev_ok (C := C) hs0 x y hy
    rw [hv] at e1; cases e1
    exact e2
  obtain ⟨tr, s1, p1, log, e1, e2, e3, e4, ⟨e5, e6⟩, e7⟩ := wpD_run (C := C) (F := F) (N := N) (base := s.H.size) rfl hs.sz (s0 := s0) (Z0 := Z) (B0 := B) ops.toList 0 p s0 B Z (p.tm.map (·.1)) [] (fun j => by simp) (by simp) hs0 hstat (fun b c st hz hc => ⟨hz, hc⟩)
    (fun r _ hr => hhole r hr) h
  simp only [List.nil_append] at e5
  have hlen : log.length = ops.size := by rw [e7]; simp
  have hgetD : ∀ i, i < ops.size → ((List.range ops.size).map (rank C.P ops)).getD i 0 = rank C.P ops i := fun i hi => by simp [List.getD, hi]
  subst hpr
  refine Wc.drawG hst (rk := (List.range ops.size).map (rank C.P ops)) rfl (N := N) rfl (prs := pairsOf C.P ops) rfl (lks := looksOf C.P ops) rfl (tr := s0 :: tr) ?_ ?_ ?_ e2 ⟨p1, e4, e6⟩
  · rw [atrace_L _ 0 fun j q hq => by
      rw [List.getElem?_zip_eq_some] at hq
      obtain ⟨h1, h2⟩ := hq
      rw [List.getElem?_map, Option.map_eq_some_iff] at h2
      obtain ⟨i, h3, h4⟩ := h2
      have hj : j < ops.size := by
        have := (List.getElem?_eq_some_iff.1 h3).1
        simpa using this
      rw [List.getElem?_range hj] at h3
      cases h3
      rw [Nat.zero_add]
      exact ⟨by simpa using h1, h4⟩]
    rw [show (ops.toList.zip ((List.range ops.size).map (rank C.P ops))).length = ops.size by simp]
    have : ops.toList.length = ops.size := by simp
    rw [this] at e1
    exact e1
  · rw [List.all_eq_true] at e5 ⊢
    rintro ⟨i, h⟩ hmem
    have hdc := e5 _ hmem
    unfold pairsOf at hmem
    rw [List.mem_flatMap] at hmem
    obtain ⟨i', h1, h2⟩ := hmem
    cases hoi : ops[i']? with
    | none => rw [hoi] at h2; simp at h2
    | some oi =>
      rw [hoi] at h2
      simp only at h2
      split at h2
      · simp at h2
      · rename_i hnh
        rw [List.mem_filterMap] at h2
        obtain ⟨h', h3, h4⟩ := h2
        cases hoh : ops[h']? with
        | none => rw [hoh] at h4; cases h4
        | some oh =>
          rw [hoh] at h4
          simp only at h4
          rw [Option.ite_none_right_eq_some] at h4
          obtain ⟨hc, heq⟩ := h4
          cases heq
          rw [Bool.and_eq_true] at hc
          have hil := (Array.getElem?_eq_some_iff.1 hoi).1
          refine chkP_ok rfl e3 hlen hoi hoh hc.1 (hgetD _ hil) ?_ hdc
          rintro rfl
          rw [hoi] at hoh
          cases hoh
          exact hnh hc.1
  · rw [List.all_eq_true]
    intro i hi
    unfold looksOf at hi
    rw [List.mem_filter] at hi
    cases hoi : ops[i]? with
    | none => rw [hoi] at hi; cases hi.2
    | some oi =>
      rw [hoi] at hi
      simp only [Bool.and_eq_true, Bool.not_eq_true'] at hi
      exact chkL_ok e3 hlen hoi hi.2.1.1 hi.2.1.2 (hgetD _ (Array.getElem?_eq_some_iff.1 hoi).1)

variable {p1 : PS} {Q : PEx → PS → Prop} {id : Nat} {ops : Array Oper} {b : Code}
theorem T.regD (hst : drawStat C.P ops = true) {prs : List (Nat × Nat)} (hpr : pairsOf C.P ops = prs)
    (h : ∀ K : PS → Prop, K p1 → wpD C ops ops.toList p (p.tm.map (·.1)) [] (fun p' log => prs.all (DC log) = true ∧ K p')) (k : T C fn rd b p1 Q) : T C fn rd (.seq (.region id ops true) b) p Q :=
  .seq (.drawD hst hpr (h _ k))

theorem T.regDe (hst : drawStat C.P ops = true) {prs : List (Nat × Nat)} (hpr : pairsOf C.P ops = prs)
    (h : ∀ K : PS → Prop, K p1 → wpD C ops ops.toList p (p.tm.map (·.1)) [] (fun p' log => prs.all (DC log) = true ∧ K p')) (k : Q .normal p1) : T C fn rd (.region id ops true) p Q :=
  .drawD hst hpr (h _ k)
end
end Go.Eng
