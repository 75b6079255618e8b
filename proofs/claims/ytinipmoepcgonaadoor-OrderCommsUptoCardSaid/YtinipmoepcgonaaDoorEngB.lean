/-
  An interpreter of the model over a heap of its own, and the rules by which its answers are found: part 2.
-/
import Derived.Test.YtinipmoepcgonaaDoorEngA
import Derived.Orders
import Derived.Deep.Slices
import Derived.Below
import Derived.WideKeyArgs
import Derived.ChangeSame
import Derived.RowKitTokens
import Derived.Lib.Bytealg
import Derived.Laws.Externs
import Derived.Laws.BitsLemmas
import Derived.Laws.Strings
set_option linter.unusedSimpArgs false
set_option linter.unusedVariables false

namespace Go.Eng
open Go

/-- What is asked of the program and of the entries that are answered by themselves. -/
structure CtxOk (C : Ctx) : Prop where
  names : ∀ (f : Nat) (fn : Func), C.P.funcs[f]? = some fn → (fn.name == "runtime.NumGoroutine") = false
  intr : ∀ f g, C.I f = some g → ∀ args H v H', g args H = some (v, H') → CallSpec C f args H (.ret v H')

section
variable {C : Ctx} {rec : Req → Option Rep}

theorem run_callFunc_enter (hC : CtxOk C) {f : FuncId} {fn : Func} {c : Code} (hf : C.P.funcs[f]? = some fn) (hb : fn.body = some c) (args : Array Value) (w : World) :
    (callFunc f args).run C.P w = .ok (.enter f args) w := by
  have hn := hC.names f fn hf
  simp only [callFunc, Sem.run_bind, run_program, Result.andThen_ok, hf, hn, Bool.false_eq_true, if_false, hb, Option.isNone_some, Sem.run_pure]

/-- What is said of the level below, whole. -/
structure RecOk3 (C : Ctx) (rec : Req → Option Rep) : Prop extends RecOk2 C rec

theorem setParams_rel {m : AMap} : ∀ (ps : List Tmp) {args args' tmps : List Value} {tmps' : Array Value}, LRel m args args' → LRel m tmps tmps'.toList →
    LRel m (setParams ps args tmps) ((ps.zip args').foldl (fun (t : Array Value) (p : Tmp × Value) => t.setIfInBounds p.1 p.2) tmps').toList
  | [], _, _, _, _, _, ht => by simpa [setParams] using ht
  | p :: ps, _, _, _, _, .nil, ht => by simpa [setParams] using ht
  | p :: ps, _, _, _, tmps', .cons h1 h2, ht => by
    simp only [setParams, List.zip_cons_cons, List.foldl_cons]
    exact setParams_rel ps h2 (by simpa using ht.set p h1)

theorem call_sound (hC : CtxOk C) (hrec : RecOk2 C rec) (hdraw : DrawOk C rec) {f : FuncId} {args : List Value} {H : AHeap} {rep : Rep} (h : step1 C rec (.call f args H) = some rep) : CallSpec C f args H rep := by
  simp only [step1] at h
  split at h
  · rename_i g hg
    split at h
    · rename_i v H' hgv
      simp at h; subst h
      exact hC.intr f g hg args H v H' hgv
    · simp at h
  · rename_i hg
    split at h
    · simp at h
    rename_i fn hf
    split at h
    · simp at h
    rename_i c hb
    -- the frame that is entered
    have start : ∀ (Fr : Fence) (wf : World) (m : AMap) (w : World) (args' : List Value), R Fr wf m H w → GRel m C.G → LRel m args args' →
        ∀ {e s'}, acode C rec f none c { tmps := args ++ List.replicate (fn.ntmps - args.length) undef, H, dfs := [] } = some (e, s') →
        Comes C Fr wf m f none (fun b k cs => lone (b.atR { tmps := ⟨args'⟩ ++ Array.replicate (fn.ntmps - args'.length) undef, defers := [] } (.code c :: k)) cs w) e s' ∧
        ∀ cs, lone (Frame.enter C.P f ⟨args'⟩ .normal) cs w = lone (({ (default : Frame) with fn := f, kind := .normal } : Frame).atR { tmps := ⟨args'⟩ ++ Array.replicate (fn.ntmps - args'.length) undef, defers := [] } [.code c]) cs w := by
      intro Fr wf m w args' r g ha e s' hc
      refine ⟨acode_sound hrec hdraw f none c hc trivial ⟨r, g, ?_, .nil⟩, fun cs => ?_⟩
      · simp only [Array.toList_append, Array.toList_replicate, ha.length]
        exact ha.append (LRel.replicate _ .undef)
      · simp [Frame.enter, Frame.atR, hf, hb]
        rfl
    have hgood : Good f none ({ (default : Frame) with fn := f, kind := .normal } : Frame) := ⟨rfl, rfl, rfl⟩
    have henter : ∀ args' w, (callFunc f args').run C.P w = .ok (.enter f args') w := fun args' w => run_callFunc_enter hC hf hb args' w
    split at h
    · rename_i s hc
      obtain ⟨v, H', rfl, -⟩ : ∃ v H', rep = .ret v H' ∧ True := by
        unfold leave at h
        split at h
        · simp at h
        · split at h
          · simp at h; exact ⟨_, _, h.symm, trivial⟩
          · simp at h
      intro Fr wf m w args' r g ha
      obtain ⟨⟨m1, w1, a1, q1, q2, q3⟩, hst⟩ := start Fr wf m w args' r g ha hc
      obtain ⟨v0, H0, e0, w2, v', p1, p2, p3⟩ := leave_sound hf h q2
      simp only [Rep.ret.injEq] at e0
      obtain ⟨rfl, rfl⟩ := e0
      refine ⟨m1, w2, v', q1, p1, p2, .inr ⟨henter _ _, fun cs => ?_⟩⟩
      have h1 := q3 _ [] cs hgood
      obtain ⟨h2, h3⟩ := p3 { ({ (default : Frame) with fn := f, kind := .normal } : Frame).atR a1 [] with mode := .returning } cs rfl rfl rfl rfl rfl
      refine ⟨_, ?_, rfl, h3⟩
      rw [hst cs]
      exact h1.trans (.head (stepR_end rfl) h2)
    · rename_i s hc
      obtain ⟨v, H', rfl, -⟩ : ∃ v H', rep = .ret v H' ∧ True := by
        unfold leave at h
        split at h
        · simp at h
        · split at h
          · simp at h; exact ⟨_, _, h.symm, trivial⟩
          · simp at h
      intro Fr wf m w args' r g ha
      obtain ⟨⟨m1, w1, a1, q1, q2, q3⟩, hst⟩ := start Fr wf m w args' r g ha hc
      obtain ⟨v0, H0, e0, w2, v', p1, p2, p3⟩ := leave_sound hf h q2
      simp only [Rep.ret.injEq] at e0
      obtain ⟨rfl, rfl⟩ := e0
      refine ⟨m1, w2, v', q1, p1, p2, .inr ⟨henter _ _, fun cs => ?_⟩⟩
      obtain ⟨k1, _, h1⟩ := q3 _ [] cs hgood
      obtain ⟨h2, h3⟩ := p3 { ({ (default : Frame) with fn := f, kind := .normal } : Frame).atR a1 (.code .ret :: k1) with mode := .returning } cs rfl rfl rfl rfl rfl
      refine ⟨_, ?_, rfl, h3⟩
      rw [hst cs]
      exact h1.trans (.head (stepR_ret rfl) h2)
    · rename_i v s hc
      split at h
      case h_2 => simp at h
      rename_i H' hta
      simp at h; subst h
      intro Fr wf m w args' r g ha
      obtain ⟨⟨m1, w1, a1, q1, q2, q3, q4, v', q5, q6⟩, hst⟩ := start Fr wf m w args' r g ha hc
      obtain ⟨w2, p1, p2⟩ := takeAll_steps C.P s.dfs hta q2 q4
      refine ⟨m1, w2, v', q1, p1, q5, henter _ _, fun cs => ?_⟩
      obtain ⟨todo, h1⟩ := q6 _ [] cs hgood
      have h2 := p2 { ({ (default : Frame) with fn := f, kind := .normal } : Frame).atR a1 todo with mode := .panicking [{ v := v', recovered := false }] } cs (by simp) rfl
      rw [hst cs]
      exact ⟨{ ({ ({ (default : Frame) with fn := f, kind := .normal } : Frame).atR a1 todo with mode := .panicking [{ v := v', recovered := false }] } : Frame) with defers := [] }, h1.trans h2, rfl, rfl, rfl, fn, hf⟩
    · simp at h

theorem beginRound_run {P : Program} {w : World} {b : Nat} {q : Loop} (h : w.heap[b]? = some (.loop q)) (hb : q.state = .ready) :
    (Instr.beginRound b).run P w = .ok () { w with heap := w.heap.setIfInBounds b (.loop { q with state := .busy }) } := by
  have h1 := run_getLoop (P := P) h
  have h2 := run_setObj_loop (P := P) (q2 := { q with state := .busy }) h
  simp only [Instr.beginRound, Sem.run_bind, h1, Result.andThen_ok, h2, hb, Sem.run_pure]

theorem endRound_run {P : Program} {w : World} {b : Nat} {q : Loop} (h : w.heap[b]? = some (.loop q)) (jump : Option Code) :
    (Instr.endRound b jump).run P w = .ok (.bool jump.isNone) { w with heap := w.heap.setIfInBounds b (.loop { q with state := if jump.isNone then .ready else .done, pending := jump }) } := by
  have h1 := run_getLoop (P := P) h
  have h2 := run_setObj_loop (P := P) (q2 := { q with state := if jump.isNone then .ready else .done, pending := jump }) h
  simp only [Instr.endRound, Sem.run_bind, h1, Result.andThen_ok, h2, Sem.run_pure]

theorem round_sound (hrec : RecOk2 C rec) (hdraw : DrawOk C rec) {l : Nat} {args : List Value} {H : AHeap} {rep : Rep} (h : step1 C rec (.round l args H) = some rep) : RoundSpec C l args H rep := by
  simp only [step1] at h
  split at h
  case h_2 => simp at h
  rename_i q hH
  split at h
  case isFalse => simp at h
  rename_i hlen
  split at h
  case h_2 => simp at h
  rename_i s1 hass
  split at h
  case h_2 => simp at h
  rename_i q1 hH1
  split at h
  case h_2 => simp at h
  rename_i hready
  -- the round begins
  have begin_ : ∀ (Fr : Fence) (wf : World) (m : AMap) (w : World) (args' : List Value) (e : MEnt), R Fr wf m H w → GRel m C.G → LRel m args args' → m.has l e →
      ∃ (m1 : AMap) (w2 : World) (a1 : Act) (tmps : Array Value), m.pre m1 ∧ SRel C Fr wf m1 { tmps := s1.tmps, H := s1.H.setIfInBounds l (.loop { q1 with state := .busy }), dfs := s1.dfs } w2 a1 ∧
        (Instr.yield e.blk ⟨args'⟩).run C.P w = .ok (.round e.blk q.fn tmps q.assign q.body) w ∧
        ∀ c cs, Steps C.P (lone (Frame.round e.blk q.fn tmps q.assign q.body .normal) (c :: cs) w)
          (lone (({ (default : Frame) with fn := q.fn, kind := .normal, roundOf := some e.blk } : Frame).atR a1 [.code q.body]) (c :: cs) w2) := by
    intro Fr wf m w args' e r g ha he
    obtain ⟨hnf, q', hw, hq⟩ := r.obj l _ e hH he
    have hargs : args'.length = q'.params.size := by rw [← ha.length, hlen, hq.params]
    let tmps : Array Value := (q'.params.toList.zip args').foldl (fun (t : Array Value) (p : Tmp × Value) => t.setIfInBounds p.1 p.2) q'.tmps
    have htm : LRel m (setParams q.params.toList args q.tmps.toList) tmps.toList := by
      simp only [tmps, hq.params]
      exact setParams_rel _ ha hq.tmps
    have hy : (Instr.yield e.blk ⟨args'⟩).run C.P w = .ok (.round e.blk q.fn tmps q.assign q.body) w := by
      have h1 := run_getLoop (P := C.P) hw
      simp only [Instr.yield, Sem.run_bind, h1, Result.andThen_ok]
      rw [if_neg (by simp [hargs])]
      simp only [Sem.run_pure, hq.fn, hq.assign, hq.body]
      congr 3
      simp only [tmps]
      rw [← Array.foldl_toList]
      simp
    obtain ⟨m1, w1, a1, p1, p2, p3⟩ := acode_sound hrec hdraw q.fn (some l) q.assign hass (ro := some e.blk) (a := { tmps, defers := [] }) ⟨e, he, rfl⟩ ⟨r, g, htm, .nil⟩
    have he1 := p1.has _ _ he
    obtain ⟨hnf1, q1', hw1, hq1⟩ := p2.r.obj l _ e hH1 he1
    have hbr := beginRound_run (P := C.P) hw1 (by rw [hq1.state]; exact hready)
    have r2 := R.setLoop p2.r he1 hH1 (q2 := { q1 with state := .busy }) (q2' := { q1' with state := .busy }) ⟨rfl, hq1.pending, hq1.fn, hq1.tmps, hq1.params, hq1.assign, hq1.body, hq1.defers⟩
    refine ⟨m1, _, a1, tmps, p1, ⟨r2, p2.g, p2.tmps, p2.dfs⟩, hy, fun c cs => ?_⟩
    have hround : Frame.round e.blk q.fn tmps q.assign q.body .normal = ({ (default : Frame) with fn := q.fn, kind := .normal, roundOf := some e.blk } : Frame).atR { tmps, defers := [] } [.code q.assign, .beginRound, .code q.body] := by
      simp [Frame.round, Frame.atR]
    rw [hround]
    exact (p3 _ [.beginRound, .code q.body] (c :: cs) ⟨rfl, rfl, rfl⟩).trans (.one (stepR_beginRound rfl hbr))
  split at h
  · rename_i s2 hbody
    split at h
    case h_2 => simp at h
    rename_i q2 hH2
    simp at h; subst h
    intro Fr wf m w args' e r g ha he
    obtain ⟨m1, w2, a1, tmps, p1, p2, p3, p4⟩ := begin_ Fr wf m w args' e r g ha he
    obtain ⟨m2, w3, a2, c1, c2, c3⟩ := acode_sound hrec hdraw q.fn (some l) q.body hbody (ro := some e.blk) ⟨e, p1.has _ _ he, rfl⟩ p2
    have he2 := c1.has _ _ (p1.has _ _ he)
    obtain ⟨hnf2, q2', hw2, hq2⟩ := c2.r.obj l _ e hH2 he2
    have hend := endRound_run (P := C.P) hw2 none
    have r3 := R.setLoop c2.r he2 hH2 (q2 := { q2 with state := .ready, pending := none }) (q2' := { q2' with state := .ready, pending := none }) ⟨rfl, rfl, hq2.fn, hq2.tmps, hq2.params, hq2.assign, hq2.body, hq2.defers⟩
    exact ⟨m2, _, .bool true, p1.trans c1, r3, .bool _, q.fn, tmps, q.assign, q.body, p3, fun c cs => (p4 c cs).trans ((c3 _ [] (c :: cs) ⟨rfl, rfl, rfl⟩).trans (.one (stepR_round_end rfl rfl hend)))⟩
  · rename_i j s2 hbody
    split at h
    case h_2 => simp at h
    rename_i q2 hH2
    simp at h; subst h
    intro Fr wf m w args' e r g ha he
    obtain ⟨m1, w2, a1, tmps, p1, p2, p3, p4⟩ := begin_ Fr wf m w args' e r g ha he
    obtain ⟨m2, w3, a2, c1, c2, c3⟩ := acode_sound hrec hdraw q.fn (some l) q.body hbody (ro := some e.blk) ⟨e, p1.has _ _ he, rfl⟩ p2
    have he2 := c1.has _ _ (p1.has _ _ he)
    obtain ⟨hnf2, q2', hw2, hq2⟩ := c2.r.obj l _ e hH2 he2
    have hend := endRound_run (P := C.P) hw2 (some j)
    have r3 := R.setLoop c2.r he2 hH2 (q2 := { q2 with state := .done, pending := some j }) (q2' := { q2' with state := .done, pending := some j }) ⟨rfl, rfl, hq2.fn, hq2.tmps, hq2.params, hq2.assign, hq2.body, hq2.defers⟩
    refine ⟨m2, _, .bool false, p1.trans c1, r3, .bool _, q.fn, tmps, q.assign, q.body, p3, fun c cs => (p4 c cs).trans ?_⟩
    obtain ⟨k1, hsame, hs⟩ := c3 ({ (default : Frame) with fn := q.fn, kind := .normal, roundOf := some e.blk } : Frame) [] (c :: cs) ⟨rfl, rfl, rfl⟩
    refine hs.trans (.one ?_)
    cases j with
    | exit id => exact stepR_round_exit rfl rfl hsame hend
    | goto t => exact stepR_round_goto rfl rfl hsame hend
    | ret => exact stepR_round_ret rfl rfl hend
    | _ => exact hsame.elim
  · rename_i v s2 hbody
    split at h
    case isFalse => simp at h
    rename_i hcond
    simp only [Bool.and_eq_true, List.isEmpty_iff] at hcond
    simp at h; subst h
    intro Fr wf m w args' e r g ha he
    obtain ⟨m1, w2, a1, tmps, p1, p2, p3, p4⟩ := begin_ Fr wf m w args' e r g ha he
    obtain ⟨m2, w3, a2, c1, c2, c3, c4, v', c5, c6⟩ := acode_sound hrec hdraw q.fn (some l) q.body hbody (ro := some e.blk) ⟨e, p1.has _ _ he, rfl⟩ p2
    obtain ⟨fn, hfn⟩ := Option.isSome_iff_exists.1 hcond.2
    have hd0 : a2.defers = [] := by
      rw [hcond.1] at c4
      generalize a2.defers = x at c4
      cases c4; rfl
    refine ⟨m2, w3, v', p1.trans c1, c2, c5, q.fn, tmps, q.assign, q.body, p3, fun c cs => (p4 c cs).trans ?_⟩
    obtain ⟨todo, hs⟩ := c6 ({ (default : Frame) with fn := q.fn, kind := .normal, roundOf := some e.blk } : Frame) [] (c :: cs) ⟨rfl, rfl, rfl⟩
    exact hs.trans (.one (step_leave_panicked ⟨rfl, hd0, fn, hfn⟩))
  · simp at h

theorem loop_sound (hrec : RecOk2 C rec) (hdraw : DrawOk C rec) {fn : FuncId} {rd : Option Nat} {c : Code} {s s' : ASt} {e : AExit} (h : step1 C rec (.loop fn rd c s) = some (.code e s'))
    {Fr : Fence} {wf : World} {m : AMap} {w : World} {a : Act} {ro : Option Nat} (hrd : RdRel m rd ro) (hs : SRel C Fr wf m s w a) :
    Comes C Fr wf m fn ro (fun b k cs => lone (b.atR a (.code c :: .inLoop c :: k)) cs w) e s' := by
  simp only [step1] at h
  split at h
  · rename_i s1 h1
    obtain ⟨m1, w1, a1, q1, q2, q3⟩ := acode_sound hrec hdraw fn rd c h1 hrd hs
    split at h
    · rename_i e1 s2 hr
      simp only [Option.some.injEq, Rep.code.injEq] at h
      obtain ⟨rfl, rfl⟩ := h
      exact (Comes.of_steps (hrec.loop _ _ _ _ _ _ hr Fr wf m1 w1 a1 ro (hrd.mono q1) q2) fun b k cs hb => (q3 b (.inLoop c :: k) cs hb).trans (.one stepR_inLoop)).le q1
    · simp at h
  · rename_i e1 s1 hn h1
    simp only [Option.some.injEq, Rep.code.injEq] at h
    obtain ⟨rfl, rfl⟩ := h
    obtain ⟨m1, w1, a1, q1, q2⟩ := acode_sound hrec hdraw fn rd c h1 hrd hs
    refine ⟨m1, w1, a1, q1, ?_⟩
    cases e1 with
    | normal => exact absurd rfl hn
    | jump j => exact ⟨q2.1, fun b k cs hb => let ⟨k1, r1, r2⟩ := q2.2 b (.inLoop c :: k) cs hb; ⟨k1, pass_loop r1, r2⟩⟩
    | panic v => exact ⟨q2.1, q2.2.1, q2.2.2.1, q2.2.2.2.elim fun v' hv => ⟨v', hv.1, fun b k cs hb => let ⟨todo, r⟩ := hv.2 b (.inLoop c :: k) cs hb; ⟨todo, r⟩⟩⟩
  · simp at h

theorem scope_sound (hrec : RecOk2 C rec) (hdraw : DrawOk C rec) {fn : FuncId} {rd : Option Nat} {body rest : Code} {s s' : ASt} {e : AExit} (h : step1 C rec (.scope fn rd body rest s) = some (.code e s'))
    {Fr : Fence} {wf : World} {m : AMap} {w : World} {a : Act} {ro : Option Nat} (hrd : RdRel m rd ro) (hs : SRel C Fr wf m s w a) :
    Comes C Fr wf m fn ro (fun b k cs => lone (b.atR a (.code rest :: .inScope body :: k)) cs w) e s' := by
  simp only [step1] at h
  split at h
  · rename_i l s1 h1
    obtain ⟨m1, w1, a1, q1, q2, q3⟩ := acode_sound hrec hdraw fn rd rest h1 hrd hs
    split at h
    · rename_i rest' hl
      split at h
      · rename_i e1 s2 hr
        simp only [Option.some.injEq, Rep.code.injEq] at h
        obtain ⟨rfl, rfl⟩ := h
        refine (Comes.of_steps (hrec.scope _ _ _ _ _ _ _ hr Fr wf m1 w1 a1 ro (hrd.mono q1) q2) fun b k cs hb => ?_).le q1
        obtain ⟨k1, r1, r2⟩ := q3 b (.inScope body :: k) cs hb
        exact r2.trans (.one (stepR_goto (by rw [show gotoIn l k1 = gotoIn l (.inScope body :: k) from r1]; simp [gotoIn, hl])))
      · simp at h
    · rename_i hl
      simp only [Option.some.injEq, Rep.code.injEq] at h
      obtain ⟨rfl, rfl⟩ := h
      refine ⟨m1, w1, a1, q1, q2, fun b k cs hb => ?_⟩
      obtain ⟨k1, r1, r2⟩ := q3 b (.inScope body :: k) cs hb
      refine ⟨k1, ?_, r2⟩
      show gotoIn l k1 = gotoIn l k
      rw [show gotoIn l k1 = gotoIn l (.inScope body :: k) from r1]
      simp [gotoIn, hl]
  · rename_i e1 s1 hn h1
    simp only [Option.some.injEq, Rep.code.injEq] at h
    obtain ⟨rfl, rfl⟩ := h
    obtain ⟨m1, w1, a1, q1, q2⟩ := acode_sound hrec hdraw fn rd rest h1 hrd hs
    refine ⟨m1, w1, a1, q1, ?_⟩
    cases e1 with
    | normal => exact ⟨q2.1, fun b k cs hb => (q2.2 b (.inScope body :: k) cs hb).trans (.one stepR_inScope)⟩
    | jump j =>
      refine ⟨q2.1, fun b k cs hb => ?_⟩
      obtain ⟨k1, r1, r2⟩ := q2.2 b (.inScope body :: k) cs hb
      refine ⟨k1, ?_, r2⟩
      cases j with
      | exit id' => exact r1
      | goto l => exact absurd rfl (hn _)
      | ret => trivial
      | _ => exact r1.elim
    | panic v => exact ⟨q2.1, q2.2.1, q2.2.2.1, q2.2.2.2.elim fun v' hv => ⟨v', hv.1, fun b k cs hb => let ⟨todo, r⟩ := hv.2 b (.inScope body :: k) cs hb; ⟨todo, r⟩⟩⟩
  · simp at h

/-- THE INTERPRETER IS RIGHT, at whatever depth. -/
theorem ev_sound (hC : CtxOk C) (hdraw : ∀ rec, RecOk C rec → DrawOk C rec) : ∀ n, RecOk2 C (ev C n)
  | 0 => ⟨⟨fun _ _ _ _ h => by simp [ev] at h, fun _ _ _ _ h => by simp [ev] at h⟩, fun _ _ _ _ _ _ h => by simp [ev] at h, fun _ _ _ _ _ _ _ h => by simp [ev] at h⟩
  | n + 1 => by
    have ih := ev_sound hC hdraw n
    have hd := hdraw _ ih.toRecOk
    exact ⟨⟨fun f args H rep h => call_sound hC ih hd h, fun l args H rep h => round_sound ih hd h⟩,
      fun fn rd c s e s' h Fr wf m w a ro hrd hs => loop_sound ih hd h hrd hs, fun fn rd body rest s e s' h Fr wf m w a ro hrd hs => scope_sound ih hd h hrd hs⟩
end

end Go.Eng

namespace Go.Eng
open Go

-- ---------------------------------------------------------------- what must come before what
def bitsOf (acc : Array Nat) (o : Oper) : Nat :=
  o.after.foldl (fun s e => if Region.binds .any e then s ||| 2 ^ e.on ||| acc.getD e.on 0 else s) 0

theorem before_eq (ops : Array Oper) : Region.before ops = ops.toList.foldl (fun acc o => acc.push (bitsOf acc o)) #[] := by
  unfold Region.before
  rw [← Array.foldl_toList]
  rfl

theorem before_fold : ∀ (l : List Oper) (acc : Array Nat),
    (l.foldl (fun acc o => acc.push (bitsOf acc o)) acc).size = acc.size + l.length ∧
    (∀ j, j < acc.size → (l.foldl (fun acc o => acc.push (bitsOf acc o)) acc)[j]? = acc[j]?) ∧
    ∀ j o, l[j]? = some o → ∃ p : Array Nat, p.size = acc.size + j ∧
      (∀ k, k < p.size → p[k]? = (l.foldl (fun acc o => acc.push (bitsOf acc o)) acc)[k]?) ∧
      (l.foldl (fun acc o => acc.push (bitsOf acc o)) acc)[acc.size + j]? = some (bitsOf p o)
  | [], acc => by simp
  | x :: l, acc => by
    obtain ⟨h1, h2, h3⟩ := before_fold l (acc.push (bitsOf acc x))
    simp only [List.foldl_cons]
    simp only [Array.size_push] at h1 h2 h3
    refine ⟨by simp [h1]; omega, fun j hj => ?_, fun j o ho => ?_⟩
    · rw [h2 j (by omega), Array.getElem?_push, if_neg (by omega)]
    · cases j with
      | zero =>
        simp only [List.getElem?_cons_zero, Option.some.injEq] at ho
        subst ho
        refine ⟨acc, rfl, fun k hk => ?_, ?_⟩
        · rw [h2 k (by omega), Array.getElem?_push, if_neg (by omega)]
        · rw [Nat.add_zero, h2 _ (by omega), Array.getElem?_push, if_pos rfl]
      | succ j =>
        simp only [List.getElem?_cons_succ] at ho
        obtain ⟨p, q1, q2, q3⟩ := h3 j o ho
        exact ⟨p, by omega, q2, by rw [show acc.size + (j + 1) = acc.size + 1 + j by omega]; exact q3⟩

theorem bits_fold (p : Array Nat) (i : Nat) : ∀ (l : List Edge) (s : Nat),
    (l.foldl (fun s e => if Region.binds .any e then s ||| 2 ^ e.on ||| p.getD e.on 0 else s) s).testBit i = true ↔
      s.testBit i = true ∨ ∃ e ∈ l, Region.binds .any e = true ∧ (i = e.on ∨ (p.getD e.on 0).testBit i = true)
  | [], s => by simp
  | e :: l, s => by
    simp only [List.foldl_cons]
    rw [bits_fold p i l]
    cases hb : Region.binds .any e
    · simp [hb]
    · simp only [if_true, Nat.testBit_or, Nat.testBit_two_pow, Bool.or_eq_true, decide_eq_true_eq, List.mem_cons, exists_eq_or_imp, hb, true_and]
      constructor
      · rintro (((h | h) | h) | h)
        · exact .inl h
        · exact .inr (.inl (.inl h.symm))
        · exact .inr (.inl (.inr h))
        · exact .inr (.inr h)
      · rintro (h | (h | h) | h)
        · exact .inl (.inl (.inl h))
        · exact .inl (.inl (.inr h.symm))
        · exact .inl (.inr h)
        · exact .inr h

theorem before_spec {ops : Array Oper} {j : Nat} {o : Oper} (ho : ops[j]? = some o) (he : ∀ e ∈ o.after.toList, Region.binds .any e = true → e.on < j) (i : Nat) :
    ordered (Region.before ops) i j = true ↔ ∃ e ∈ o.after.toList, Region.binds .any e = true ∧ (i = e.on ∨ ordered (Region.before ops) i e.on = true) := by
  obtain ⟨_, _, h3⟩ := before_fold ops.toList #[]
  obtain ⟨p, q1, q2, q3⟩ := h3 j o (by simpa using ho)
  rw [← before_eq] at q2 q3
  simp only [List.size_toArray, List.length_nil, Nat.zero_add] at q1 q3
  unfold ordered
  rw [q3]
  simp only [Option.getD_some]
  unfold bitsOf
  rw [← Array.foldl_toList, bits_fold]
  simp only [Nat.zero_testBit, Bool.false_eq_true, false_or]
  constructor
  · rintro ⟨e, h1, h2, h⟩
    refine ⟨e, h1, h2, h.imp id fun h => ?_⟩
    rw [← q2 e.on (by rw [q1]; exact he e h1 h2)]
    rwa [Array.getD_eq_getD_getElem?] at h
  · rintro ⟨e, h1, h2, h⟩
    refine ⟨e, h1, h2, h.imp id fun h => ?_⟩
    rw [← q2 e.on (by rw [q1]; exact he e h1 h2)] at h
    rwa [Array.getD_eq_getD_getElem?]

/-- What drawStat says. -/
structure Stat (P : Program) (ops : Array Oper) : Prop where
  mixed : P.follows .mixedOrders || !Region.departs ops
  edges : ∀ j o, ops[j]? = some o → ∀ e ∈ o.after.toList, Region.binds .any e = true → e.on < j
  heavy2 : ∀ i j q o, i ≠ j → ops[i]? = some q → ops[j]? = some o → heavy o = true → heavy q = true → ordered (Region.before ops) i j = true ∨ ordered (Region.before ops) j i = true
  names : ∀ i j q o d, i ≠ j → ops[i]? = some q → ops[j]? = some o → q.dst = some d → d ∈ namesOf o ++ guardTmp ops o →
    ordered (Region.before ops) i j = true ∨ ordered (Region.before ops) j i = true

theorem stat_of {P : Program} {ops : Array Oper} (h : drawStat P ops = true) : Stat P ops := by
  unfold drawStat at h
  simp only [Bool.and_eq_true, List.all_eq_true, List.mem_range] at h
  obtain ⟨h1, h2⟩ := h
  have key : ∀ j o, ops[j]? = some o → _ := fun j o ho => by
    have := h2 j (Array.getElem?_eq_some_iff.1 ho).1
    rw [ho] at this
    simp only [Bool.and_eq_true, List.all_eq_true, List.mem_range] at this
    exact this
  have key2 : ∀ i j q o, i ≠ j → ops[i]? = some q → ops[j]? = some o → _ := fun i j q o hij hq ho => by
    have := (key j o ho).2 i (Array.getElem?_eq_some_iff.1 hq).1
    rw [hq] at this
    simp only [Bool.or_eq_true, beq_iff_eq, hij, false_or, Bool.and_eq_true] at this
    exact this
  refine ⟨h1, fun j o ho e hm hb => ?_, fun i j q o hij hq ho h3 h4 => ?_, fun i j q o d hij hq ho hd hm => ?_⟩
  · have := (key j o ho).1 e hm
    simpa [hb] using this
  · have := (key2 i j q o hij hq ho).1
    simpa [h3, h4] using this
  · have := (key2 i j q o hij hq ho).2
    rw [hd] at this
    simp only [Bool.or_eq_true, Bool.not_eq_true'] at this
    rcases this with (h | h) | h
    · have h' : ¬ d ∈ namesOf o ++ guardTmp ops o := by
        intro hd
        rw [List.contains_iff_mem.2 hd] at h
        simp at h
      exact absurd hm h'
    · exact .inl h
    · exact .inr h

theorem Stat.lt {P : Program} {ops : Array Oper} (st : Stat P ops) : ∀ (j i : Nat), ordered (Region.before ops) i j = true → i < j := by
  intro j
  induction j using Nat.strongRecOn with
  | ind j ih =>
    intro i h
    cases ho : ops[j]? with
    | none =>
      exfalso
      unfold ordered at h
      have : (Region.before ops)[j]? = none := by
        obtain ⟨h1, _, _⟩ := before_fold ops.toList #[]
        rw [← before_eq] at h1
        have hj : ops.size ≤ j := Array.getElem?_eq_none_iff.1 ho
        exact Array.getElem?_eq_none (by rw [h1]; simpa using hj)
      rw [this] at h
      simp at h
    | some o =>
      obtain ⟨e, h1, h2, h3⟩ := (before_spec ho (st.edges j o ho) i).1 h
      have := st.edges j o ho e h1 h2
      rcases h3 with rfl | h3
      · exact this
      · exact Nat.lt_trans (ih _ this i h3) this

/-- The operations done are all that must come before one of them. -/
def Closed (ops : Array Oper) (listed : Array Bool) : Prop :=
  ∀ (j : Nat) (o : Oper), ops[j]? = some o → listed[j]? = some true → ∀ e ∈ o.after.toList, Region.binds .any e = true → listed[e.on]? = some true

theorem Stat.before {P : Program} {ops : Array Oper} (st : Stat P ops) {listed : Array Bool} (hc : Closed ops listed) :
    ∀ (j : Nat) (o : Oper), ops[j]? = some o → (∀ e ∈ o.after.toList, Region.binds .any e = true → listed[e.on]? = some true) → ∀ i, ordered (Region.before ops) i j = true → listed[i]? = some true := by
  intro j
  induction j using Nat.strongRecOn with
  | ind j ih =>
    intro o ho hall i h
    obtain ⟨e, h1, h2, h3⟩ := (before_spec ho (st.edges j o ho) i).1 h
    rcases h3 with rfl | h3
    · exact hall e h1 h2
    · have hlt := st.edges j o ho e h1 h2
      have hsz : j < ops.size := (Array.getElem?_eq_some_iff.1 ho).1
      have ho2 : ops[e.on]? = some ops[e.on] := by simp [show e.on < ops.size by omega]
      exact ih _ hlt _ ho2 (fun e' h1' h2' => hc _ _ ho2 (hall e h1 h2) e' h1' h2') i h3


-- ---------------------------------------------------------------- what an operation looks at
theorem mapOpt_congr {α β : Type} {f g : α → Option β} : ∀ {l : List α}, (∀ x ∈ l, f x = g x) → mapOpt f l = mapOpt g l
  | [], _ => rfl
  | x :: xs, h => by
    rw [mapOpt, mapOpt, h x (by simp), mapOpt_congr (l := xs) fun y hy => h y (by simp [hy])]

theorem partsOf_congr {f g : Operand → Option Value} : ∀ {l : List (Nat × Operand)}, (∀ x ∈ l.map (·.2), f x = g x) → partsOf f l = partsOf g l
  | [], _ => rfl
  | (i, x) :: xs, h => by
    rw [partsOf, partsOf, h x (by simp), partsOf_congr (l := xs) fun y hy => h y (by simp at hy ⊢; exact .inr hy)]

theorem bind_congr' {f g : Operand → Option Value} {x : Option Operand} (h : ∀ y ∈ x, f y = g y) : x.bind f = x.bind g := by
  cases x with
  | none => rfl
  | some y => exact h y rfl

theorem map_congr' {f g : Operand → Option Value} {x : Option Operand} (h : ∀ y ∈ x, f y = g y) : x.map f = x.map g := by
  cases x with
  | none => rfl
  | some y => simp [h y rfl]

section
variable {C : Ctx} {P : Program} {ρ ρ2 : Operand → Option Value} {H : AHeap} {o : Oper}

theorem alight_congr (h : ∀ x ∈ o.op.operands.toList, ρ x = ρ2 x) : alight P ρ H o = alight P ρ2 H o := by
  obtain ⟨dst, op, type, pos, after, guard⟩ := o
  simp only at h
  cases op <;> simp only [alight] <;> try (simp only [Op.operands, List.mem_cons, List.not_mem_nil, or_false, forall_eq_or_imp, forall_eq] at h; simp only [h]; done)
  case build t ps => rw [partsOf_congr fun x hx => h x (by simpa [Op.operands] using hx)]
  case makeFunc fn a b =>
    cases fn with
    | func f => simp only; rw [mapOpt_congr (l := a.toList) fun x hx => h x (by simp [Op.operands] at hx ⊢; exact .inl hx), mapOpt_congr (l := b.toList) fun x hx => h x (by simp [Op.operands] at hx ⊢; exact .inr hx)]
    | _ => rfl
  case slice t x lo hi mx =>
    have hx := h x (by simp [Op.operands])
    have hlo : ∀ y ∈ lo, ρ y = ρ2 y := fun y hy => h y (by simp [Op.operands]; simp at hy; subst hy; simp)
    have hhi : ∀ y ∈ hi, ρ y = ρ2 y := fun y hy => h y (by simp [Op.operands]; simp at hy; subst hy; simp)
    have hmx : ∀ y ∈ mx, ρ y = ρ2 y := fun y hy => h y (by simp [Op.operands]; simp at hy; subst hy; simp)
    rw [hx, map_congr' hlo, map_congr' hhi, map_congr' hmx, bind_congr' hlo, bind_congr' hhi, bind_congr' hmx]
  case call c =>
    obtain ⟨callee, args, argTypes⟩ := c
    have ha : mapOpt ρ args.toList = mapOpt ρ2 args.toList := mapOpt_congr fun x hx => h x (by simp [Op.operands, Call.operands]; simp at hx; exact .inr hx)
    cases callee with
    | value f => rfl
    | invoke r n => rfl
    | builtin b => cases b <;> simp only [ha]

theorem areads_congr (h : ∀ x ∈ o.op.operands.toList, ρ x = ρ2 x) : areads ρ o = areads ρ2 o := by
  obtain ⟨dst, op, type, pos, after, guard⟩ := o
  simp only at h
  cases op <;> simp only [areads] <;> try (simp only [Op.operands, List.mem_cons, List.not_mem_nil, or_false, forall_eq] at h; simp only [h]; done)
  case slice t x lo hi mx => rw [h x (by simp [Op.operands])]

theorem aalloc_congr (h : ∀ x ∈ o.op.operands.toList, ρ x = ρ2 x) : aalloc P ρ o = aalloc P ρ2 o := by
  obtain ⟨dst, op, type, pos, after, guard⟩ := o
  simp only at h
  cases op <;> simp only [aalloc] <;> try (simp [Op.operands] at h; simp only [h]; done)
  case buildSlice t n ps => rw [partsOf_congr fun x hx => h x (by simpa [Op.operands] using hx)]

theorem aheavy_congr (h : ∀ x ∈ o.op.operands.toList, ρ x = ρ2 x) : aheavy C ρ H o = aheavy C ρ2 H o := by
  obtain ⟨dst, op, type, pos, after, guard⟩ := o
  simp only at h
  cases op <;> simp only [aheavy] <;> try (simp only [Op.operands, List.mem_cons, List.not_mem_nil, or_false, forall_eq_or_imp, forall_eq] at h; simp only [h]; done)
  case call c =>
    obtain ⟨callee, args, argTypes⟩ := c
    have ha : mapOpt ρ args.toList = mapOpt ρ2 args.toList := mapOpt_congr fun x hx => h x (by simp [Op.operands, Call.operands]; simp at hx; exact .inr hx)
    cases callee with
    | value f => have hf := h f (by simp [Op.operands, Call.operands]); simp only [ha, hf]
    | invoke r n => have hf := h r (by simp [Op.operands, Call.operands]); simp only [ha, hf]
    | builtin b => cases b <;> simp only [ha]

theorem aout_congr {rec : Req → Option Rep} {at_ : Option Nat} (h : ∀ x ∈ o.op.operands.toList, ρ x = ρ2 x) : aout C rec at_ o ρ H = aout C rec at_ o ρ2 H := by
  unfold aout
  rw [alight_congr h, aalloc_congr h, aheavy_congr h]

theorem stOf_congr {H H2 : AHeap} {b : Nat} (h : H[b]? = H2[b]?) : stOf H b = stOf H2 b := by unfold stOf; rw [h]
theorem cell?_congr {H H2 : AHeap} {a : Addr} (h : H[a.block]? = H2[a.block]?) : H.cell? a = H2.cell? a := by unfold AHeap.cell?; rw [h]
theorem cells?_congr {H H2 : AHeap} {a : Addr} (n : Nat) (h : H[a.block]? = H2[a.block]?) : H.cells? a n = H2.cells? a n := by unfold AHeap.cells?; rw [h]
theorem aload_congr {H H2 : AHeap} {t : TypeId} {a : Addr} (h : H[a.block]? = H2[a.block]?) : aload P H t a = aload P H2 t a := by
  unfold aload
  simp only [cell?_congr h, cells?_congr _ h]

/-- A light operation sees but the block that areads tells. -/
theorem alight_heap {H2 : AHeap} (h : ∀ blk full, areads ρ o = some (blk, full) → if full = true then H[blk]? = H2[blk]? else stOf H blk = stOf H2 blk) :
    alight P ρ H o = alight P ρ H2 o := by
  obtain ⟨dst, op, type, pos, after, guard⟩ := o
  cases op <;> simp only [alight]
  case load t a =>
    simp only [areads] at h
    split
    · rename_i ad ha
      rw [ha] at h
      exact aload_congr (by simpa using h _ _ rfl)
    · rfl
  case convert s d x =>
    simp only [areads] at h
    split
    · rename_i a n c hx
      rw [hx] at h
      split
      · rename_i e _ _
        cases a with
        | none => cases P.underlying e with
          | none => rfl
          | some u => cases u with
            | int k => cases k <;> rfl
            | _ => rfl
        | some ad =>
          have h1 : H.cells? ad n = H2.cells? ad n := cells?_congr n (by simpa using h ad.block true rfl)
          cases P.underlying e with
          | none => rfl
          | some u => cases u with
            | int k => cases k <;> first | rfl | simp only [h1]
            | _ => rfl
      · rfl
    · rfl
    · rfl
  case slice t x lo hi mx =>
    simp only [areads] at h
    split
    · rename_i a n c hx
      rw [hx] at h
      cases a with
      | none => rfl
      | some ad =>
        have := h ad.block false rfl
        simp only [Bool.false_eq_true, if_false] at this
        have h1 : slOk P H t (some ad) = slOk P H2 t (some ad) := by unfold slOk; simp only [this]
        rw [h1]
    · rfl
    · rename_i a hx
      rw [hx] at h
      have := h a.block false rfl
      simp only [Bool.false_eq_true, if_false] at this
      rw [this]
    · rfl
  case makeFunc f _ _ => cases f <;> rfl
  case call c =>
    obtain ⟨callee, args, argTypes⟩ := c
    cases callee with
    | value f => rfl
    | invoke r n => rfl
    | builtin b => cases b <;> rfl

/-- .. and that block has its place. -/
theorem areads_has {m : AMap} {ρ' : Operand → Value} (hρ : Operands m ρ ρ') {blk : Nat} {full : Bool} (h : areads ρ o = some (blk, full)) : ∃ e, m.has blk e := by
  obtain ⟨dst, op, type, pos, after, guard⟩ := o
  have key : ∀ x a, ρ x = some (.pointer (some a)) → ∃ e, m.has a.block e := fun x a hx => by
    have := hρ x _ hx
    obtain ⟨bk, of, sp⟩ := a
    generalize ρ' x = y at this
    cases this <;> exact ⟨_, by assumption⟩
  have key2 : ∀ x a n c, ρ x = some (.slice (some a) n c) → ∃ e, m.has a.block e := fun x a n c hx => by
    have := hρ x _ hx
    obtain ⟨bk, of, sp⟩ := a
    generalize ρ' x = y at this
    cases this <;> exact ⟨_, by assumption⟩
  cases op <;> simp only [areads] at h <;> try (simp at h; done)
  case load t a =>
    split at h
    · rename_i ad ha
      simp only [Option.some.injEq, Prod.mk.injEq] at h
      obtain ⟨rfl, _⟩ := h
      exact key _ _ ha
    · simp at h
  case convert s d x =>
    split at h
    · rename_i ad _ _ ha
      simp only [Option.some.injEq, Prod.mk.injEq] at h
      obtain ⟨rfl, _⟩ := h
      exact key2 _ _ _ _ ha
    · simp at h
  case slice t x lo hi mx =>
    split at h
    · rename_i ad _ _ ha
      simp only [Option.some.injEq, Prod.mk.injEq] at h
      obtain ⟨rfl, _⟩ := h
      exact key2 _ _ _ _ ha
    · rename_i ad ha
      simp only [Option.some.injEq, Prod.mk.injEq] at h
      obtain ⟨rfl, _⟩ := h
      exact key _ _ ha
    · simp at h

end

mutual
theorem vbeq_eq : ∀ (a b : Value), vbeq a b = true → a = b
  | .bool a, b, h => by cases b <;> simp [vbeq] at h ⊢; exact h
  | .int k a, b, h => by cases b <;> simp [vbeq] at h ⊢; exact h
  | .float k a, b, h => by cases b <;> simp [vbeq] at h ⊢; exact h
  | .complex k a c, b, h => by cases b <;> simp [vbeq] at h ⊢; exact ⟨h.1.1, h.1.2, h.2⟩
  | .string a, b, h => by
    cases b <;> simp [vbeq] at h ⊢
    exact ByteArray.ext h
  | .pointer a, b, h => by cases b <;> simp [vbeq] at h ⊢; exact h
  | .slice a n c, b, h => by cases b <;> simp [vbeq] at h ⊢; exact ⟨h.1.1, h.1.2, h.2⟩
  | .map a, b, h => by cases b <;> simp [vbeq] at h ⊢; exact h
  | .chan a, b, h => by cases b <;> simp [vbeq] at h ⊢; exact h
  | .nilFunc, b, h => by cases b <;> simp [vbeq] at h ⊢
  | .nilIface, b, h => by cases b <;> simp [vbeq] at h ⊢
  | .iface t v, b, h => by
    cases b <;> simp [vbeq] at h ⊢
    exact ⟨h.1, vbeq_eq _ _ h.2⟩
  | .func f ⟨x⟩ ⟨y⟩, b, h => by
    cases b with
    | func g z u =>
      obtain ⟨z⟩ := z
      obtain ⟨u⟩ := u
      simp only [vbeq, Bool.and_eq_true, decide_eq_true_eq] at h
      rw [h.1.1, vbeqL_eq _ _ h.1.2, vbeqL_eq _ _ h.2]
    | _ => simp [vbeq] at h
  | .agg ⟨x⟩, b, h => by
    cases b with
    | agg z =>
      obtain ⟨z⟩ := z
      rw [vbeqL_eq x z (by simpa [vbeq] using h)]
    | _ => simp [vbeq] at h
  | .tuple ⟨x⟩, b, h => by
    cases b with
    | tuple z =>
      obtain ⟨z⟩ := z
      rw [vbeqL_eq x z (by simpa [vbeq] using h)]
    | _ => simp [vbeq] at h
theorem vbeqL_eq : ∀ (a b : List Value), vbeqL a b = true → a = b
  | [], [], _ => rfl
  | a :: x, b :: y, h => by
    simp only [vbeqL, Bool.and_eq_true] at h
    rw [vbeq_eq a b h.1, vbeqL_eq x y h.2]
  | [], _ :: _, h => by simp [vbeqL] at h
  | _ :: _, [], h => by simp [vbeqL] at h
end

theorem obeq_eq {x y : Option AObj} (h : obeq x y = true) : x = y := by
  unfold obeq at h
  split at h
  · rename_i a s b t
    simp only [Bool.and_eq_true] at h
    have h1 : s = t := by cases s <;> cases t <;> simp [St.beq] at h ⊢; exact h.1
    rw [vbeqL_eq _ _ h.2, h1]
  · simp at h

end Go.Eng

namespace Go.Eng
open Go

-- ---------------------------------------------------------------- the trace
theorem atrace_spec {C : Ctx} {rec : Req → Option Rep} {ops : Array Oper} {base : Nat} : ∀ (l : List Nat) (s : ASt) (tr : List ASt), atrace C rec ops base l s = some tr →
    tr.length = l.length + 1 ∧ tr[0]? = some s ∧ ∀ k i, l[k]? = some i → ∃ s1 s2, tr[k]? = some s1 ∧ tr[k + 1]? = some s2 ∧ astep C rec ops (some (base + rank C.P ops i)) i s1 = some (.normal, s2)
  | [], s, tr, h => by
    simp only [atrace, Option.some.injEq] at h
    subst h
    simp
  | i :: r, s, tr, h => by
    simp only [atrace] at h
    split at h
    · rename_i s' hs
      split at h
      · rename_i l hl
        simp only [Option.some.injEq] at h
        subst h
        obtain ⟨h1, h2, h3⟩ := atrace_spec r s' l hl
        refine ⟨by simp [h1], by simp, fun k j hk => ?_⟩
        cases k with
        | zero =>
          simp only [List.getElem?_cons_zero, Option.some.injEq] at hk
          subst hk
          exact ⟨s, s', by simp, by simpa using h2, hs⟩
        | succ k =>
          simp only [List.getElem?_cons_succ] at hk
          obtain ⟨s1, s2, q1, q2, q3⟩ := h3 k j hk
          exact ⟨s1, s2, by simpa using q1, by simpa using q2, q3⟩
      · simp at h
    · simp at h

theorem rank_mono (P : Program) (ops : Array Oper) : ∀ (j i : Nat), i ≤ j → rank P ops i ≤ rank P ops j
  | 0, i, h => by
    have : i = 0 := by omega
    subst this; exact Nat.le_refl _
  | j + 1, i, h => by
    rcases Nat.lt_or_ge i (j + 1) with h' | h'
    · have := rank_mono P ops j i (by omega)
      simp only [rank]; omega
    · have : i = j + 1 := by omega
      subst this; exact Nat.le_refl _

theorem rank_lt {P : Program} {ops : Array Oper} {i j : Nat} {o : Oper} (ho : ops[i]? = some o) (ha : isAlloc P o = true) (h : i < j) : rank P ops i < rank P ops j := by
  have h1 := rank_mono P ops j (i + 1) h
  have h2 : rank P ops (i + 1) = rank P ops i + 1 := by simp [rank, allocAt, ho, ha]
  omega

theorem rank_inj {P : Program} {ops : Array Oper} {i j : Nat} {o q : Oper} (ho : ops[i]? = some o) (ha : isAlloc P o = true) (hq : ops[j]? = some q) (hb : isAlloc P q = true)
    (h : rank P ops i = rank P ops j) : i = j := by
  rcases Nat.lt_trichotomy i j with h' | h' | h'
  · have := rank_lt ho ha h'; omega
  · exact h'
  · have := rank_lt hq hb h'; omega

theorem alloc_not_heavy {P : Program} {o : Oper} (h : isAlloc P o = true) : heavy o = false := by
  obtain ⟨dst, op, type, pos, after, guard⟩ := o
  cases op <;> simp_all [isAlloc, heavy]

/-- The region, its text order's states, and what the checks say of them. -/
structure Env (C : Ctx) (rec : Req → Option Rep) (ops : Array Oper) (base : Nat) (S : Nat → ASt) : Prop where
  st : Stat C.P ops
  tr : ∀ i o, ops[i]? = some o → astep C rec ops (some (base + rank C.P ops i)) i (S i) = some (.normal, S (i + 1))
  light : ∀ i o blk full, ops[i]? = some o → heavy o = false → isAlloc C.P o = false → awanted ops o (S i).tmps = true → areads (aeval C.G (S i).tmps) o = some (blk, full) →
    (blk < base + rank C.P ops i ∨ base + rank C.P ops ops.size ≤ blk) ∧
    ∀ h q, ops[h]? = some q → heavy q = true → awanted ops q (S h).tmps = true → ordered (Region.before ops) i h = false → ordered (Region.before ops) h i = false →
      if full = true then (S h).H[blk]? = (S (h + 1)).H[blk]? else stOf (S h).H blk = stOf (S (h + 1)).H blk
  hole : ∀ i o, ops[i]? = some o → isAlloc C.P o = true → awanted ops o (S i).tmps = true → ∀ h q, ops[h]? = some q → heavy q = true → awanted ops q (S h).tmps = true →
    h < i → (S h).H[base + rank C.P ops i]? = some .hole
  keep : ∀ i o, ops[i]? = some o → isAlloc C.P o = true → awanted ops o (S i).tmps = true → ∀ h q, ops[h]? = some q → heavy q = true → awanted ops q (S h).tmps = true →
    i < h → ordered (Region.before ops) i h = false → (S h).H[base + rank C.P ops i]? = (S (h + 1)).H[base + rank C.P ops i]?

theorem isHole_eq {x : Option AObj} (h : isHole x = true) : x = some .hole := by
  unfold isHole at h
  split at h
  · rfl
  · simp at h

theorem env_of {C : Ctx} {rec : Req → Option Rep} {ops : Array Oper} {base : Nat} {s s' : ASt} {tr : List ASt} (h1 : drawStat C.P ops = true)
    (h2 : atrace C rec ops base (List.range ops.size) s = some tr) (h3 : drawDyn C ops base tr = true) (h4 : tr.getLast? = some s') :
    ∃ S : Nat → ASt, S 0 = s ∧ S ops.size = s' ∧ Env C rec ops base S := by
  obtain ⟨t1, t2, t3⟩ := atrace_spec _ _ _ h2
  simp only [List.length_range] at t1
  refine ⟨fun i => (tr[i]?).getD s, by simp [t2], ?_, ?_⟩
  · rw [List.getLast?_eq_getElem?, t1] at h4
    simp only [Nat.add_sub_cancel] at h4
    simp [h4]
  have tS : ∀ i o, ops[i]? = some o → ∃ s1 s2, tr[i]? = some s1 ∧ tr[i + 1]? = some s2 ∧ astep C rec ops (some (base + rank C.P ops i)) i s1 = some (.normal, s2) := by
    intro i o ho
    have hi : i < ops.size := (Array.getElem?_eq_some_iff.1 ho).1
    exact t3 i i (by simp [hi])
  have dyn : ∀ i o s1, ops[i]? = some o → tr[i]? = some s1 → _ := fun i o s1 ho hs => by
    unfold drawDyn at h3
    simp only [List.all_eq_true, List.mem_range] at h3
    have := h3 i (Array.getElem?_eq_some_iff.1 ho).1
    rw [ho, hs] at this
    exact this
  refine ⟨stat_of h1, fun i o ho => ?_, fun i o blk full ho hh ha hw hr => ?_, fun i o ho ha hw h q hq hhq hwq hlt => ?_, fun i o ho ha hw h q hq hhq hwq hlt hord => ?_⟩
  · obtain ⟨s1, s2, q1, q2, q3⟩ := tS i o ho
    simp only [q1, q2, Option.getD_some]; exact q3
  · obtain ⟨s1, s2, q1, q2, q3⟩ := tS i o ho
    simp only [q1, Option.getD_some] at hw hr ⊢
    have := dyn i o s1 ho q1
    simp only [hh, hw, ha, hr, Bool.not_true, Bool.or_false, Bool.false_eq_true, if_false, Bool.and_eq_true, Bool.or_eq_true, decide_eq_true_eq, List.all_eq_true, List.mem_range] at this
    refine ⟨this.1, fun h q hq hhq hwq ho1 ho2 => ?_⟩
    obtain ⟨s3, s4, q4, q5, q6⟩ := tS h q hq
    have := this.2 h (Array.getElem?_eq_some_iff.1 hq).1
    simp only [q4, q5, Option.getD_some] at hwq ⊢
    simp only [hq, q4, q5, hhq, hwq, ho1, ho2, Bool.not_false] at this
    cases full
    · simpa using this
    · exact obeq_eq (by simpa using this)
  · obtain ⟨s1, s2, q1, q2, q3⟩ := tS i o ho
    obtain ⟨s3, s4, q4, q5, q6⟩ := tS h q hq
    simp only [q1, q4, Option.getD_some] at hw hwq ⊢
    have := dyn i o s1 ho q1
    simp only [alloc_not_heavy ha, hw, ha, Bool.not_true, Bool.or_false, Bool.false_eq_true, if_false, if_true, List.all_eq_true, List.mem_range] at this
    have := this h (Array.getElem?_eq_some_iff.1 hq).1
    simp only [hq, q4, q5, hhq, hwq, Bool.and_self, if_true, hlt] at this
    exact isHole_eq this
  · obtain ⟨s1, s2, q1, q2, q3⟩ := tS i o ho
    obtain ⟨s3, s4, q4, q5, q6⟩ := tS h q hq
    simp only [q1, q4, q5, Option.getD_some] at hw hwq ⊢
    have := dyn i o s1 ho q1
    simp only [alloc_not_heavy ha, hw, ha, Bool.not_true, Bool.or_false, Bool.false_eq_true, if_false, if_true, List.all_eq_true, List.mem_range] at this
    have := this h (Array.getElem?_eq_some_iff.1 hq).1
    simp only [hq, q4, q5, hhq, hwq, Bool.and_self, if_true, show ¬ h < i by omega, if_false, hord, Bool.false_or] at this
    exact obeq_eq this

theorem put_H (s : ASt) (d : Option Tmp) (v : Value) (H : AHeap) : (s.put d v H).H = H := by cases d <;> rfl
theorem put_dfs (s : ASt) (d : Option Tmp) (v : Value) (H : AHeap) : (s.put d v H).dfs = s.dfs := by cases d <;> rfl
def putT (T : List Value) (d : Option Tmp) (v : Value) : List Value := match d with | some d => T.set d v | none => T
theorem put_tmps (s : ASt) (d : Option Tmp) (v : Value) (H : AHeap) : (s.put d v H).tmps = putT s.tmps d v := by cases d <;> rfl

section
variable {C : Ctx} {rec : Req → Option Rep} {ops : Array Oper} {base : Nat} {S : Nat → ASt} (E : Env C rec ops base S)
include E

/-- What each operation does in the text's order. -/
theorem Env.kind {i : Nat} {o : Oper} (ho : ops[i]? = some o) :
    (awanted ops o (S i).tmps = false ∧ S (i + 1) = (S i).put o.dst undef (S i).H) ∨
    (awanted ops o (S i).tmps = true ∧ ∃ v H', aout C rec (some (base + rank C.P ops i)) o (aeval C.G (S i).tmps) (S i).H = some (true, v, H') ∧ S (i + 1) = (S i).put o.dst v H') := by
  have h := E.tr i o ho
  unfold astep at h
  rw [ho] at h
  simp only at h
  cases hw : awanted ops o (S i).tmps
  · rw [hw] at h
    simp only [Bool.false_eq_true, if_false, Option.some.injEq, Prod.mk.injEq, true_and] at h
    exact .inl ⟨rfl, h.symm⟩
  · rw [hw] at h
    simp only [if_true] at h
    unfold aop1 at h
    split at h
    · rename_i v H' ha
      simp only [Option.some.injEq, Prod.mk.injEq, true_and] at h
      exact .inr ⟨rfl, v, H', ha, h.symm⟩
    · simp at h
    · simp at h

theorem Env.dfs {i : Nat} : i ≤ ops.size → (S i).dfs = (S 0).dfs := by
  induction i with
  | zero => intro _; rfl
  | succ i ih =>
    intro h
    have ho : ops[i]? = some ops[i] := by simp [show i < ops.size by omega]
    rw [← ih (by omega)]
    rcases E.kind ho with ⟨_, h⟩ | ⟨_, v, H', _, h⟩ <;> rw [h, put_dfs]

/-- .. of a block at most what is its own. -/
theorem Env.step_obj {i : Nat} {o : Oper} (ho : ops[i]? = some o) (hh : heavy o = false ∨ awanted ops o (S i).tmps = false) :
    (S (i + 1)).H.size = (S i).H.size ∧
    ∀ idx, (isAlloc C.P o = true → awanted ops o (S i).tmps = true → idx ≠ base + rank C.P ops i) → (S (i + 1)).H[idx]? = (S i).H[idx]? := by
  rcases E.kind ho with ⟨_, h⟩ | ⟨hw, v, H', ha, h⟩
  · rw [h, put_H]; exact ⟨rfl, fun _ _ => rfl⟩
  · rw [h, put_H]
    have hh : heavy o = false := hh.resolve_right (by simp [hw])
    unfold aout at ha
    split at ha
    · rename_i hal
      split at ha
      · split at ha
        · rename_i hne; cases hne
        · rename_i id hid
          cases hid
          split at ha
          · simp only [Option.some.injEq, Prod.mk.injEq, true_and] at ha
            obtain ⟨_, rfl⟩ := ha
            refine ⟨by simp, fun idx hidx => ?_⟩
            rw [Array.getElem?_setIfInBounds, if_neg (Ne.symm (hidx hal hw))]
          · simp at ha
      · simp at ha
    · rw [hh] at ha
      simp only [Bool.false_eq_true, if_false] at ha
      split at ha
      · simp only [Option.some.injEq, Prod.mk.injEq, true_and] at ha
        obtain ⟨_, rfl⟩ := ha
        exact ⟨rfl, fun _ _ => rfl⟩
      · simp at ha

theorem Env.alloc {i : Nat} {o : Oper} (ho : ops[i]? = some o) (hal : isAlloc C.P o = true) (hw : awanted ops o (S i).tmps = true) :
    ∃ nw, aalloc C.P (aeval C.G (S i).tmps) o = some nw ∧ (S (i + 1)).H[base + rank C.P ops i]? = some (.cells nw.cells (.rw nw.esz)) ∧
      ∃ H', S (i + 1) = (S i).put o.dst (nw.val (base + rank C.P ops i)) H' := by
  rcases E.kind ho with ⟨h, _⟩ | ⟨_, v, H', ha, h⟩
  · simp [hw] at h
  · rw [h, put_H]
    unfold aout at ha
    rw [hal] at ha
    simp only [if_true] at ha
    split at ha
    · rename_i nw hnw
      split at ha
      · rename_i hid
        simp only [Option.some.injEq, Prod.mk.injEq, true_and] at ha
        obtain ⟨rfl, rfl⟩ := ha
        have := (Array.getElem?_eq_some_iff.1 hid).1
        exact ⟨nw, hnw, by simp [this], _, rfl⟩
      · simp at ha
    · simp at ha

theorem Env.stay {β : Type} (f : Option AObj → β) (idx : Nat) : ∀ (x y : Nat), y ≤ x → x ≤ ops.size →
    (∀ p o, y ≤ p → p < x → ops[p]? = some o → (isAlloc C.P o = true → awanted ops o (S p).tmps = true → idx ≠ base + rank C.P ops p) ∧
      (heavy o = true → awanted ops o (S p).tmps = true → f ((S p).H[idx]?) = f ((S (p + 1)).H[idx]?))) →
    f ((S y).H[idx]?) = f ((S x).H[idx]?) := by
  intro x
  induction x with
  | zero => intro y hy _ _; rw [Nat.le_zero.1 hy]
  | succ x ih =>
    intro y hy hx h
    rcases Nat.lt_or_ge x y with h' | h'
    · rw [show y = x + 1 by omega]
    · rw [ih y h' (by omega) fun p o h1 h2 h3 => h p o h1 (by omega) h3]
      have ho : ops[x]? = some ops[x] := by simp [show x < ops.size by omega]
      obtain ⟨h1, h2⟩ := h x _ h' (by omega) ho
      by_cases hh : heavy ops[x] = true ∧ awanted ops ops[x] (S x).tmps = true
      · exact h2 hh.1 hh.2
      · rw [(E.step_obj ho (by
          cases hv : heavy ops[x]
          · exact .inl rfl
          · refine .inr ?_
            rw [hv] at hh
            simpa using hh)).2 idx h1]

theorem Env.size_stay : ∀ (x y : Nat), y ≤ x → x ≤ ops.size → (∀ p o, y ≤ p → p < x → ops[p]? = some o → heavy o = false) → (S y).H.size = (S x).H.size := by
  intro x
  induction x with
  | zero => intro y hy _ _; rw [Nat.le_zero.1 hy]
  | succ x ih =>
    intro y hy hx h
    rcases Nat.lt_or_ge x y with h' | h'
    · rw [show y = x + 1 by omega]
    · rw [ih y h' (by omega) fun p o h1 h2 h3 => h p o h1 (by omega) h3]
      have ho : ops[x]? = some ops[x] := by simp [show x < ops.size by omega]
      exact (E.step_obj ho (.inl (h x _ h' (by omega) ho))).1.symm

theorem Env.tstay (d : Nat) : ∀ (x y : Nat), y ≤ x → x ≤ ops.size → (∀ p o, y ≤ p → p < x → ops[p]? = some o → o.dst ≠ some d) → (S y).tmps[d]? = (S x).tmps[d]? := by
  intro x
  induction x with
  | zero => intro y hy _ _; rw [Nat.le_zero.1 hy]
  | succ x ih =>
    intro y hy hx h
    rcases Nat.lt_or_ge x y with h' | h'
    · rw [show y = x + 1 by omega]
    · rw [ih y h' (by omega) fun p o h1 h2 h3 => h p o h1 (by omega) h3]
      have ho : ops[x]? = some ops[x] := by simp [show x < ops.size by omega]
      have hd := h x _ h' (by omega) ho
      have key : ∀ v H', S (x + 1) = (S x).put ops[x].dst v H' → (S x).tmps[d]? = (S (x + 1)).tmps[d]? := by
        intro v H' hS
        rw [hS, put_tmps]
        unfold putT
        split
        · rename_i d' hd'
          rw [List.getElem?_set, if_neg (by rintro rfl; exact hd hd')]
        · rfl
      rcases E.kind ho with ⟨_, hS⟩ | ⟨_, v, H', _, hS⟩
      · exact key _ _ hS
      · exact key _ _ hS

end

end Go.Eng

namespace Go.Eng
open Go

theorem R.congr {Fr : Fence} {wf w : World} {m : AMap} {G H : AHeap} (r : R Fr wf m G w) (hs : G.size = H.size) (h : ∀ i e, m.has i e → G[i]? = H[i]?) : R Fr wf m H w where
  size := r.size.trans hs
  os := r.os
  tape := r.tape
  output := r.output
  grow := r.grow
  lt := r.lt
  keep := r.keep
  obj := fun i o e ho he => r.obj i o e ((h i e he).trans ho) he
  inj := fun i j o o' e e' hij ho ho' hl hl' he he' => r.inj i j o o' e e' hij ((h i e he).trans ho) ((h j e' he').trans ho') hl hl' he he'

theorem ORel.fence {F F2 : Fence} {m : AMap} {w : World} {e : MEnt} {o : AObj} (h : ORel F m w e o) (h1 : F.ro = F2.ro) (h2 : live o = true → ¬ F2 e.blk) : ORel F2 m w e o := by
  cases o with
  | cells c st => cases st with
    | ro => exact ⟨h1 ▸ h.1, h.2⟩
    | rw z => exact ⟨h2 rfl, h.2⟩
    | dead => trivial
  | iter s pos => exact ⟨h2 rfl, h.2⟩
  | loop l => exact ⟨h2 rfl, h.2⟩
  | defr => exact ⟨h2 rfl, h.2⟩
  | taken => trivial
  | hole => trivial

theorem aeval_congr {G : List (Nat × Nat)} {T U : List Value} {l : List Operand} (h : ∀ t ∈ tmpsOf l, T[t]? = U[t]?) : ∀ x ∈ l, aeval G T x = aeval G U x := by
  intro x hx
  cases x with
  | tmp t => exact h t (by unfold tmpsOf; rw [List.mem_filterMap]; exact ⟨_, hx, rfl⟩)
  | _ => rfl

theorem awanted_congr {ops : Array Oper} {o : Oper} {T U : List Value} (h : ∀ t ∈ guardTmp ops o, T[t]? = U[t]?) : awanted ops o T = awanted ops o U := by
  unfold awanted
  unfold guardTmp at h
  split
  · rfl
  · rename_i j want hg
    rw [hg] at h
    simp only at h
    cases hd : (ops[j]?).bind (·.dst) with
    | none => rfl
    | some d =>
      rw [hd] at h
      simp only at h ⊢
      rw [h d (by simp)]

/-- What holds while a region runs in some order: D are the operations done, K stands right behind the last heavy one of them. -/
structure Inv (C : Ctx) (ops : Array Oper) (base : Nat) (S : Nat → ASt) (Fr : Fence) (wf : World) (m0 : AMap) (D : Nat → Prop) (K : Nat) (G : AHeap) (T : List Value) (m : AMap) (w : World) (a : Act) : Prop where
  hK : K ≤ ops.size
  heavyD : ∀ q o, ops[q]? = some o → heavy o = true → (q < K ↔ D q)
  r : R Fr wf m G w
  pre0 : m0.pre m
  low : base + rank C.P ops ops.size ≤ m.size
  g : GRel m C.G
  tm : LRel m T a.tmps.toList
  dfs : DRel m (S 0).dfs a.defers
  size : G.size = (S K).H.size
  away : ∀ idx, (∀ j o, ops[j]? = some o → isAlloc C.P o = true → idx ≠ base + rank C.P ops j) → G[idx]? = (S K).H[idx]?
  mine : ∀ j o, ops[j]? = some o → isAlloc C.P o = true → ∀ e, m.has (base + rank C.P ops j) e →
    D j ∧ awanted ops o (S j).tmps = true ∧ G[base + rank C.P ops j]? = (S (max K (j + 1))).H[base + rank C.P ops j]?
  none : ∀ j o, ops[j]? = some o → isAlloc C.P o = true → ¬ D j → m[base + rank C.P ops j]? = some none
  slot : ∀ d x, x ≤ ops.size → (∀ q o, ops[q]? = some o → o.dst = some d → (q < x ↔ D q)) → T[d]? = (S x).tmps[d]?

/-- May the operation i be drawn now? -/
structure May (ops : Array Oper) (D : Nat → Prop) (i : Nat) : Prop where
  fresh : ¬ D i
  ready : ∀ p, ordered (Region.before ops) p i = true → D p
  down : ∀ q, D q → ∀ p, ordered (Region.before ops) p q = true → D p

section
variable {C : Ctx} {rec : Req → Option Rep} {ops : Array Oper} {base : Nat} {S : Nat → ASt} (E : Env C rec ops base S)
variable {Fr : Fence} {wf w : World} {m0 m : AMap} {D : Nat → Prop} {K : Nat} {G : AHeap} {T : List Value} {a : Act}
include E

theorem Env.lt_of {i j : Nat} (h : ordered (Region.before ops) i j = true) : i < j := E.st.lt j i h

/-- What an operation names holds what it holds in the text's order. -/
theorem Env.names_eq (v : Inv C ops base S Fr wf m0 D K G T m w a) {i : Nat} {o : Oper} (ho : ops[i]? = some o) (may : May ops D i) :
    ∀ t ∈ namesOf o ++ guardTmp ops o, T[t]? = (S i).tmps[t]? := by
  intro t ht
  have hi : i < ops.size := (Array.getElem?_eq_some_iff.1 ho).1
  refine v.slot t i (by omega) fun q oq hq hd => ?_
  by_cases hqi : q = i
  · subst hqi
    exact ⟨fun h => absurd h (Nat.lt_irrefl _), fun h => absurd h may.fresh⟩
  rcases E.st.names q i oq o t hqi hq ho hd ht with h | h
  · exact ⟨fun _ => may.ready q h, fun _ => E.lt_of h⟩
  · have := E.lt_of h
    exact ⟨fun h' => by omega, fun h' => absurd (may.down q h' i h) may.fresh⟩

theorem Env.ops_eq (v : Inv C ops base S Fr wf m0 D K G T m w a) {i : Nat} {o : Oper} (ho : ops[i]? = some o) (may : May ops D i) :
    ∀ x ∈ o.op.operands.toList, aeval C.G (S i).tmps x = aeval C.G T x :=
  aeval_congr fun t ht => (E.names_eq v ho may t (by simp [namesOf, ht])).symm

theorem Env.want_eq (v : Inv C ops base S Fr wf m0 D K G T m w a) {i : Nat} {o : Oper} (ho : ops[i]? = some o) (may : May ops D i) :
    awanted ops o T = awanted ops o (S i).tmps :=
  awanted_congr fun t ht => E.names_eq v ho may t (by simp [ht])

/-- The slots after it. -/
theorem Env.slot_put (v : Inv C ops base S Fr wf m0 D K G T m w a) {i : Nat} {o : Oper} (ho : ops[i]? = some o) (may : May ops D i) {x : Value} {H' : AHeap}
    (hS : S (i + 1) = (S i).put o.dst x H') : ∀ d y, y ≤ ops.size → (∀ q o, ops[q]? = some o → o.dst = some d → (q < y ↔ (D q ∨ q = i))) → (putT T o.dst x)[d]? = (S y).tmps[d]? := by
  intro d y hy hx
  have hi : i < ops.size := (Array.getElem?_eq_some_iff.1 ho).1
  by_cases hd : o.dst = some d
  · have hiy : i < y := (hx i o ho hd).2 (.inr rfl)
    rw [← E.tstay d y (i + 1) hiy hy fun p op h1 h2 hp hpd => ?_]
    · rw [hS, put_tmps]
      have hn := E.names_eq v ho may d (by simp [namesOf, hd])
      unfold putT
      rw [hd]
      simp only
      rw [List.getElem?_set, List.getElem?_set]
      have : d < T.length ↔ d < (S i).tmps.length := by
        constructor
        · intro h
          rw [List.getElem?_eq_getElem h] at hn
          exact (List.getElem?_eq_some_iff.1 hn.symm).1
        · intro h
          rw [List.getElem?_eq_getElem h] at hn
          exact (List.getElem?_eq_some_iff.1 hn).1
      simp [this]
    · rcases (hx p op hp hpd).1 h2 with hDp | rfl
      · rcases E.st.names i p o op d (by omega) ho hp hd (by simp [namesOf, hpd]) with h | h
        · exact may.fresh (may.down p hDp i h)
        · have := E.lt_of h; omega
      · omega
  · have : (putT T o.dst x)[d]? = T[d]? := by
      unfold putT
      split
      · rename_i d' hd'
        rw [List.getElem?_set, if_neg (by rintro rfl; exact hd hd')]
      · rfl
    rw [this]
    refine v.slot d y hy fun q oq hq hqd => ?_
    rw [hx q oq hq hqd]
    refine ⟨fun h => h.resolve_right ?_, .inl⟩
    rintro rfl
    rw [ho] at hq
    cases hq
    exact hd hqd

/-- Of what is not done, a heavy one that stands before i, and of what is done, one that stands behind it, is not bound to it. -/
theorem Env.apart {i : Nat} (may : May ops D i) {h : Nat} (hh : (i < h ∧ D h) ∨ (h < i ∧ ¬ D h)) : ordered (Region.before ops) i h = false ∧ ordered (Region.before ops) h i = false := by
  constructor
  · cases hv : ordered (Region.before ops) i h
    · rfl
    · exfalso
      have := E.lt_of hv
      rcases hh with ⟨_, h2⟩ | ⟨h1, _⟩
      · exact may.fresh (may.down h h2 i hv)
      · omega
  · cases hv : ordered (Region.before ops) h i
    · rfl
    · exfalso
      have := E.lt_of hv
      rcases hh with ⟨h1, _⟩ | ⟨_, h2⟩
      · omega
      · exact h2 (may.ready h hv)

omit E in
theorem Env.id_ne {i j : Nat} {o q : Oper} (ho : ops[i]? = some o) (ha : isAlloc C.P o = true) (hq : ops[j]? = some q) (hb : isAlloc C.P q = true) (hij : i ≠ j) :
    base + rank C.P ops i ≠ base + rank C.P ops j := by
  intro h
  exact hij (rank_inj ho ha hq hb (by omega))

/-- A light operation sees what it sees in the text's order. -/
theorem Env.light_sees (v : Inv C ops base S Fr wf m0 D K G T m w a) {i : Nat} {o : Oper} (ho : ops[i]? = some o) (may : May ops D i) (hh : heavy o = false) (ha : isAlloc C.P o = false)
    (hw : awanted ops o (S i).tmps = true) {blk : Nat} {full : Bool} (hr : areads (aeval C.G (S i).tmps) o = some (blk, full)) {e : MEnt} (he : m.has blk e) :
    if full = true then (S i).H[blk]? = G[blk]? else stOf (S i).H blk = stOf G blk := by
  have hi : i < ops.size := (Array.getElem?_eq_some_iff.1 ho).1
  obtain ⟨l1, l2⟩ := E.light i o blk full ho hh ha hw hr
  let stO : Option AObj → Option Nat := fun x => match x with | some (.cells _ .ro) => some 0 | some (.cells _ (.rw z)) => some z | _ => none
  have hst : ∀ H : AHeap, stOf H blk = stO H[blk]? := fun _ => rfl
  let f : Option AObj → Option AObj ⊕ Option Nat := fun x => if full = true then .inl x else .inr (stO x)
  have goal : f ((S i).H[blk]?) = f (G[blk]?) → if full = true then (S i).H[blk]? = G[blk]? else stOf (S i).H blk = stOf G blk := by
    intro h
    simp only [f] at h
    split at h
    · rename_i hf
      rw [if_pos hf]; exact Sum.inl.inj h
    · rename_i hf
      rw [if_neg hf, hst, hst]; exact Sum.inr.inj h
  have step : ∀ p q, ops[p]? = some q → heavy q = true → awanted ops q (S p).tmps = true → ((i < p ∧ D p) ∨ (p < i ∧ ¬ D p)) → f ((S p).H[blk]?) = f ((S (p + 1)).H[blk]?) := by
    intro p q hq hhq hwq hD
    obtain ⟨a1, a2⟩ := E.apart may hD
    have := l2 p q hq hhq hwq a1 a2
    simp only [f]
    split
    · rename_i hf
      rw [if_pos hf] at this; rw [this]
    · rename_i hf
      rw [if_neg hf, hst, hst] at this; rw [this]
  apply goal
  by_cases hx : ∃ j q, ops[j]? = some q ∧ isAlloc C.P q = true ∧ blk = base + rank C.P ops j
  · obtain ⟨j, q, hq, hqa, rfl⟩ := hx
    obtain ⟨m1, m2, m3⟩ := v.mine j q hq hqa e he
    have hjn : j < ops.size := (Array.getElem?_eq_some_iff.1 hq).1
    have hji : j < i := by
      rcases l1 with h | h
      · rcases Nat.lt_or_ge j i with h' | h'
        · exact h'
        · have := rank_mono C.P ops j i h'; omega
      · have := rank_lt hq hqa hjn; omega
    rw [m3]
    rcases Nat.le_total i (max K (j + 1)) with hle | hle
    · refine E.stay f _ _ _ hle (by have := v.hK; omega) fun p op h1 h2 hp => ⟨fun hpa _ => Env.id_ne hq hqa hp hpa (by omega), fun hph hpw => ?_⟩
      refine step p op hp hph hpw (.inl ⟨?_, (v.heavyD p op hp hph).1 (by omega)⟩)
      rcases Nat.lt_or_ge i p with h' | h'
      · exact h'
      · have : p = i := by omega
        subst this
        rw [ho] at hp; cases hp
        rw [hh] at hph; cases hph
    · refine (E.stay f _ _ _ hle (by omega) fun p op h1 h2 hp => ⟨fun hpa _ => Env.id_ne hq hqa hp hpa (by omega), fun hph hpw => ?_⟩).symm
      exact step p op hp hph hpw (.inr ⟨h2, fun hD => by have := (v.heavyD p op hp hph).2 hD; omega⟩)
  · have hno : ∀ j q, ops[j]? = some q → isAlloc C.P q = true → blk ≠ base + rank C.P ops j := fun j q h1 h2 h3 => hx ⟨j, q, h1, h2, h3⟩
    rw [v.away blk hno]
    rcases Nat.le_total i K with hle | hle
    · refine E.stay f _ _ _ hle v.hK fun p op h1 h2 hp => ⟨fun hpa _ => hno p op hp hpa, fun hph hpw => ?_⟩
      refine step p op hp hph hpw (.inl ⟨?_, (v.heavyD p op hp hph).1 h2⟩)
      rcases Nat.lt_or_ge i p with h' | h'
      · exact h'
      · have : p = i := by omega
        subst this
        rw [ho] at hp; cases hp
        rw [hh] at hph; cases hph
    · refine (E.stay f _ _ _ hle (by omega) fun p op h1 h2 hp => ⟨fun hpa _ => hno p op hp hpa, fun hph hpw => ?_⟩).symm
      exact step p op hp hph hpw (.inr ⟨h2, fun hD => by have := (v.heavyD p op hp hph).2 hD; omega⟩)

/-- The heap, told from a heavy operation that may be drawn now. -/
theorem Env.rebase (v : Inv C ops base S Fr wf m0 D K G T m w a) {i : Nat} {o : Oper} (ho : ops[i]? = some o) (may : May ops D i) (hh : heavy o = true) :
    (∀ q oq, ops[q]? = some oq → heavy oq = true → (q < i ↔ D q)) ∧ G.size = (S i).H.size ∧
    (∀ idx, (∀ j o, ops[j]? = some o → isAlloc C.P o = true → idx ≠ base + rank C.P ops j) → G[idx]? = (S i).H[idx]?) ∧
    (∀ j q, ops[j]? = some q → isAlloc C.P q = true → ∀ e, m.has (base + rank C.P ops j) e → D j ∧ awanted ops q (S j).tmps = true ∧
      G[base + rank C.P ops j]? = (S (max i (j + 1))).H[base + rank C.P ops j]?) := by
  have hi : i < ops.size := (Array.getElem?_eq_some_iff.1 ho).1
  have hq : ∀ q oq, ops[q]? = some oq → heavy oq = true → (q < i ↔ D q) := by
    intro q oq hq hqh
    by_cases hqi : q = i
    · subst hqi
      exact ⟨fun h => absurd h (Nat.lt_irrefl _), fun h => absurd h may.fresh⟩
    rcases E.st.heavy2 q i oq o hqi hq ho hh hqh with h | h
    · exact ⟨fun _ => may.ready q h, fun _ => E.lt_of h⟩
    · have := E.lt_of h
      exact ⟨fun h' => by omega, fun h' => absurd (may.down q h' i h) may.fresh⟩
  have hKi : K ≤ i := by
    rcases Nat.lt_or_ge i K with h | h
    · exact absurd ((v.heavyD i o ho hh).1 h) may.fresh
    · exact h
  have hno : ∀ p op, K ≤ p → p < i → ops[p]? = some op → heavy op = false := by
    intro p op h1 h2 hp
    cases hv : heavy op
    · rfl
    · have := (v.heavyD p op hp hv).2 ((hq p op hp hv).1 h2); omega
  refine ⟨hq, v.size.trans (E.size_stay i K hKi (by omega) hno), fun idx hidx => ?_, fun j q hj hja e he => ?_⟩
  · rw [v.away idx hidx]
    exact E.stay id idx i K hKi (by omega) fun p op h1 h2 hp => ⟨fun hpa _ => hidx p op hp hpa, fun hph => by rw [hno p op h1 h2 hp] at hph; cases hph⟩
  · obtain ⟨m1, m2, m3⟩ := v.mine j q hj hja e he
    have hjn : j < ops.size := (Array.getElem?_eq_some_iff.1 hj).1
    refine ⟨m1, m2, m3.trans ?_⟩
    exact E.stay id _ _ _ (by omega) (by omega) fun p op h1 h2 hp => ⟨fun hpa _ => Env.id_ne hj hja hp hpa (by omega), fun hph => by rw [hno p op (by omega) (by omega) hp] at hph; cases hph⟩

end

end Go.Eng

namespace Go.Eng
open Go

theorem LRel.putT {m m' : AMap} (hm : m.le m') {T : List Value} {a : Act} (h : LRel m T a.tmps.toList) {v v' : Value} (hv : VRel m' v v') (d : Option Tmp) : LRel m' (putT T d v) (a.put d v').tmps.toList := by
  rw [put_toList]
  unfold Eng.putT
  cases d with
  | none => exact h.mono hm
  | some d => exact (h.mono hm).set d hv

section
variable {C : Ctx} {rec : Req → Option Rep} {ops : Array Oper} {base : Nat} {S : Nat → ASt} (E : Env C rec ops base S)
variable {Fr : Fence} {wf w : World} {m0 m : AMap} {D : Nat → Prop} {K : Nat} {G : AHeap} {T : List Value} {a : Act}
include E

/-- A step that leaves the heap as it is. -/
theorem Env.still (v : Inv C ops base S Fr wf m0 D K G T m w a) {i : Nat} {o : Oper} (ho : ops[i]? = some o) (may : May ops D i) (hh : heavy o = false)
    (hal : isAlloc C.P o = true → awanted ops o (S i).tmps = false) {x x' : Value} (hx : VRel m x x') {H' : AHeap} (hS : S (i + 1) = (S i).put o.dst x H') :
    Inv C ops base S Fr wf m0 (fun q => D q ∨ q = i) K G (putT T o.dst x) m w (a.put o.dst x') where
  hK := v.hK
  heavyD := fun q oq hq hqh => by
    rw [v.heavyD q oq hq hqh]
    refine ⟨.inl, fun h => h.resolve_right ?_⟩
    rintro rfl
    rw [ho] at hq; cases hq
    rw [hh] at hqh; cases hqh
  r := v.r
  pre0 := v.pre0
  low := v.low
  g := v.g
  tm := v.tm.putT (.refl m) hx _
  dfs := by rw [put_defers]; exact v.dfs
  size := v.size
  away := v.away
  mine := fun j q hj hja e he => let ⟨h1, h2⟩ := v.mine j q hj hja e he; ⟨.inl h1, h2⟩
  none := fun j q hj hja h => v.none j q hj hja fun h' => h (.inl h')
  slot := E.slot_put v ho may hS

/-- A new block's step. -/
theorem Env.fill (v : Inv C ops base S Fr wf m0 D K G T m w a) (hbase : m0.size = base) {i : Nat} {o : Oper} (ho : ops[i]? = some o) (may : May ops D i) (hal : isAlloc C.P o = true)
    (hw : awanted ops o (S i).tmps = true) :
    ∃ m' w' x', m.le m' ∧ (execOp a.eval o).run C.P w = .ok (.value x') w' ∧
      ∃ G' x, Inv C ops base S Fr wf m0 (fun q => D q ∨ q = i) K G' (putT T o.dst x) m' w' (a.put o.dst x') := by
  have hi : i < ops.size := (Array.getElem?_eq_some_iff.1 ho).1
  obtain ⟨nw, hnw, hH, H', hS⟩ := E.alloc ho hal hw
  have hρ : Operands m (aeval C.G T) a.eval := aeval_rel v.g v.tm
  rw [aalloc_congr (E.ops_eq v ho may)] at hnw
  obtain ⟨x', w', e, y, hrun, hm⟩ := aalloc_run v.r hρ hnw
  have hn := v.none i o ho hal may.fresh
  have hrk : rank C.P ops i < rank C.P ops ops.size := rank_lt ho hal hi
  have hid : base + rank C.P ops i < G.size := by rw [← v.r.size]; have := v.low; omega
  have hle := AMap.le_fill hn e
  have r' := v.r.fill hid hn hm.pushed hm.blk (hm.obj _ hle)
  refine ⟨_, w', x', hle, hrun, G.setIfInBounds (base + rank C.P ops i) (.cells nw.cells (.rw nw.esz)), nw.val (base + rank C.P ops i), ?_⟩
  have hpre : m0.pre (m.setIfInBounds (base + rank C.P ops i) (some e)) := by
    refine ⟨by simpa using v.pre0.size, fun k hk => ?_⟩
    rw [Array.getElem?_setIfInBounds, if_neg (by omega)]
    exact v.pre0.eq k hk
  refine
    { hK := v.hK
      heavyD := fun q oq hq hqh => ?_
      r := r'
      pre0 := hpre
      low := by simpa using v.low
      g := v.g.mono hle
      tm := v.tm.putT hle (hm.val _ _ (AMap.has_fill hn e)) _
      dfs := by rw [put_defers]; exact v.dfs.mono hle
      size := by simpa using v.size
      away := fun idx hidx => ?_
      mine := fun j q hj hja e' he' => ?_
      none := fun j q hj hja h => ?_
      slot := E.slot_put v ho may hS }
  · rw [v.heavyD q oq hq hqh]
    refine ⟨.inl, fun h => h.resolve_right ?_⟩
    rintro rfl
    rw [ho] at hq; cases hq
    rw [alloc_not_heavy hal] at hqh; cases hqh
  · rw [Array.getElem?_setIfInBounds, if_neg (Ne.symm (hidx i o ho hal))]
    exact v.away idx hidx
  · by_cases hji : j = i
    · subst hji
      rw [ho] at hj; cases hj
      refine ⟨.inr rfl, hw, ?_⟩
      rw [Array.getElem?_setIfInBounds, if_pos rfl, if_pos hid, ← hH]
      exact E.stay id _ _ _ (by omega) (by have := v.hK; omega) fun p op h1 h2 hp => ⟨fun hpa _ => Env.id_ne ho hal hp hpa (by omega), fun hph hpw => by
        have hD : D p := (v.heavyD p op hp hph).1 (by omega)
        exact E.keep j o ho hal hw p op hp hph hpw (by omega) (E.apart may (.inl ⟨by omega, hD⟩)).1⟩
    · have hne := Env.id_ne (C := C) (base := base) hj hja ho hal hji
      obtain ⟨h1, h2, h3⟩ := v.mine j q hj hja e' (AMap.fill_back hne he')
      refine ⟨.inl h1, h2, ?_⟩
      rw [Array.getElem?_setIfInBounds, if_neg (Ne.symm hne)]
      exact h3
  · have hji : j ≠ i := fun h' => h (.inr h')
    rw [Array.getElem?_setIfInBounds, if_neg (Ne.symm (Env.id_ne hj hja ho hal hji))]
    exact v.none j q hj hja fun h' => h (.inl h')

/-- A heavy step: what it changes it changes of the text's heap. -/
theorem Env.heavy_step (v : Inv C ops base S Fr wf m0 D K G T m w a) {i : Nat} {o : Oper} (ho : ops[i]? = some o) (may : May ops D i) (hh : heavy o = true) :
    ∀ {m' : AMap} {w' : World} {G' : AHeap} {x x' : Value} {H' : AHeap}, m.pre m' → R Fr wf m' G' w' → VRel m' x x' → S (i + 1) = (S i).put o.dst x H' →
      G'.size = (S (i + 1)).H.size →
      (∀ idx, (∀ j o, ops[j]? = some o → isAlloc C.P o = true → idx ≠ base + rank C.P ops j) → G'[idx]? = (S (i + 1)).H[idx]?) →
      (∀ j q e, ops[j]? = some q → isAlloc C.P q = true → m.has (base + rank C.P ops j) e → G'[base + rank C.P ops j]? = if i < j then G[base + rank C.P ops j]? else (S (i + 1)).H[base + rank C.P ops j]?) →
      Inv C ops base S Fr wf m0 (fun q => D q ∨ q = i) (i + 1) G' (putT T o.dst x) m' w' (a.put o.dst x') := by
  intro m' w' G' x x' H' hpre r' hx hS hsz haway hmine
  have hi : i < ops.size := (Array.getElem?_eq_some_iff.1 ho).1
  obtain ⟨b1, b2, b3, b4⟩ := E.rebase v ho may hh
  have hlow : ∀ j q, ops[j]? = some q → isAlloc C.P q = true → base + rank C.P ops j < m.size := by
    intro j q hj hja
    have := rank_lt hj hja (Array.getElem?_eq_some_iff.1 hj).1
    have := v.low
    omega
  have hback : ∀ j q e, ops[j]? = some q → isAlloc C.P q = true → m'.has (base + rank C.P ops j) e → m.has (base + rank C.P ops j) e := by
    intro j q e hj hja h
    unfold AMap.has at *
    rw [← hpre.eq _ (hlow j q hj hja)]; exact h
  exact
    { hK := hi
      heavyD := fun q oq hq hqh => by
        rw [← b1 q oq hq hqh]; omega
      r := r'
      pre0 := v.pre0.trans hpre
      low := Nat.le_trans v.low hpre.size
      g := v.g.mono hpre
      tm := v.tm.putT hpre hx _
      dfs := by rw [put_defers]; exact v.dfs.mono hpre
      size := hsz
      away := haway
      mine := fun j q hj hja e he => by
        have he' := hback j q e hj hja he
        obtain ⟨h1, h2, h3⟩ := b4 j q hj hja e he'
        have hji : j ≠ i := by
          rintro rfl
          rw [ho] at hj; cases hj
          rw [alloc_not_heavy hja] at hh; cases hh
        refine ⟨.inl h1, h2, ?_⟩
        rw [hmine j q e hj hja he']
        split
        · rename_i hij
          rw [h3, show max i (j + 1) = j + 1 by omega, show max (i + 1) (j + 1) = j + 1 by omega]
        · rw [show max (i + 1) (j + 1) = i + 1 by omega]
      none := fun j q hj hja h => by
        rw [hpre.eq _ (hlow j q hj hja)]
        exact v.none j q hj hja fun h' => h (.inl h')
      slot := E.slot_put v ho may hS }

open Classical in
/-- A heavy operation that is carried out. -/
theorem Env.heavy_run (hrec : RecOk C rec) (v : Inv C ops base S Fr wf m0 D K G T m w a) {i : Nat} {o : Oper} (ho : ops[i]? = some o) (may : May ops D i) (hh : heavy o = true)
    (hw : awanted ops o (S i).tmps = true) :
    ∃ m' w' x', m.le m' ∧ OpSteps C.P o a.eval w x' w' ∧
      ∃ K' G' x, Inv C ops base S Fr wf m0 (fun q => D q ∨ q = i) K' G' (putT T o.dst x) m' w' (a.put o.dst x') := by
  have hi : i < ops.size := (Array.getElem?_eq_some_iff.1 ho).1
  obtain ⟨b1, b2, b3, b4⟩ := E.rebase v ho may hh
  obtain ⟨h, _⟩ | ⟨_, x, H', hout, hS⟩ := E.kind ho
  · rw [hw] at h; cases h
  have hna : isAlloc C.P o = false := by
    cases hv : isAlloc C.P o
    · rfl
    · rw [alloc_not_heavy hv] at hh; cases hh
  have hρ : Operands m (aeval C.G T) a.eval := aeval_rel v.g v.tm
  rw [aout_congr (E.ops_eq v ho may)] at hout
  let early : Nat → Prop := fun idx => ∃ j q, ops[j]? = some q ∧ isAlloc C.P q = true ∧ i < j ∧ idx = base + rank C.P ops j ∧ ∃ e, m.has idx e
  have hearly : ∀ idx, early idx → idx < m.size ∧ (S i).H[idx]? = some .hole ∧ ∃ c z, G[idx]? = some (.cells c (.rw z)) := by
    rintro idx ⟨j, q, hj, hja, hij, rfl, e, he⟩
    obtain ⟨h1, h2, h3⟩ := b4 j q hj hja e he
    refine ⟨he.lt, E.hole j q hj hja h2 i o ho hh hw hij, ?_⟩
    obtain ⟨nw, _, hH, _⟩ := E.alloc hj hja h2
    rw [h3, show max i (j + 1) = j + 1 by omega, hH]
    exact ⟨_, _, rfl⟩
  let F : Fence := ⟨Fr.ro, fun k => Fr.more k ∨ ∃ idx e, early idx ∧ m.has idx e ∧ k = e.blk⟩
  have hFr : ∀ k, Fr k → F k := fun k hk => hk.elim .inl fun h => .inr (.inl h)
  have hFe : ∀ idx e, early idx → m.has idx e → F e.blk := fun idx e h1 h2 => .inr (.inr ⟨idx, e, h1, h2, rfl⟩)
  have hlive : ∀ idx e, early idx → m.has idx e → ORel Fr m w e (G[idx]?.getD .hole) ∧ live (G[idx]?.getD .hole) = true := by
    intro idx e h1 h2
    obtain ⟨_, _, c, z, h3⟩ := hearly idx h1
    rw [h3]
    exact ⟨v.r.obj idx _ e h3 h2, rfl⟩
  have hsame : ∀ idx e, m.has idx e → ¬ early idx → G[idx]? = (S i).H[idx]? := by
    intro idx e he hne
    by_cases hx : ∃ j q, ops[j]? = some q ∧ isAlloc C.P q = true ∧ idx = base + rank C.P ops j
    · obtain ⟨j, q, hj, hja, rfl⟩ := hx
      obtain ⟨h1, h2, h3⟩ := b4 j q hj hja e he
      have hji : ¬ i < j := fun h => hne ⟨j, q, hj, hja, h, rfl, e, he⟩
      have : j ≠ i := by
        rintro rfl
        rw [ho] at hj; cases hj
        rw [hna] at hja; cases hja
      rw [h3, show max i (j + 1) = i by omega]
    · exact b3 idx fun j q h1 h2 h3 => hx ⟨j, q, h1, h2, h3⟩
  have hapart : ∀ idx e o', m.has idx e → ¬ early idx → G[idx]? = some o' → live o' = true → ¬ F e.blk := by
    rintro idx e o' he hne hG hl hF
    have hno := (v.r.obj idx o' e hG he).notFr hl
    rcases hF with h | h | ⟨idx2, e2, h1, h2, h3⟩
    · exact hno (.inl h)
    · exact hno (.inr h)
    · obtain ⟨_, _, c, z, hG2⟩ := hearly idx2 h1
      exact v.r.inj idx idx2 o' _ e e2 (by rintro rfl; exact hne h1) hG hG2 hl rfl he h2 h3
  have rS : R F w m (S i).H w :=
    { size := v.r.size.trans b2
      os := rfl, tape := rfl, output := rfl, grow := Nat.le_refl _
      lt := by
        rintro k (h | h | ⟨idx, e, h1, h2, rfl⟩)
        · exact Nat.lt_of_lt_of_le (v.r.lt k (.inl h)) v.r.grow
        · exact Nat.lt_of_lt_of_le (v.r.lt k (.inr h)) v.r.grow
        · obtain ⟨q1, q2⟩ := hlive idx e h1 h2
          exact q1.lt q2
      keep := fun _ _ => rfl
      obj := fun idx o' e hH he => by
        by_cases hx : early idx
        · rw [(hearly idx hx).2.1] at hH
          cases hH
          trivial
        · have hG := (hsame idx e he hx).trans hH
          exact (v.r.obj idx o' e hG he).fence rfl fun hl => hapart idx e o' he hx hG hl
      inj := fun k l ok ol ek el hkl hk hl lk ll hek hel => by
        have hx : ∀ idx oo, (S i).H[idx]? = some oo → live oo = true → ¬ early idx := fun idx oo h1 h2 h3 => by
          rw [(hearly idx h3).2.1] at h1
          cases h1; cases h2
        exact v.r.inj k l ok ol ek el hkl ((hsame k ek hek (hx k ok hk lk)).trans hk) ((hsame l el hel (hx l ol hl ll)).trans hl) lk ll hek hel }
  obtain ⟨m', w', x', q1, q2, q3, q4⟩ := aout_val hrec rS v.g hρ (by rw [hna]; intro h; cases h) hout
  have hH' : (S (i + 1)).H = H' := by rw [hS, put_H]
  let G' : AHeap := H'.mapIdx fun idx o' => if early idx then (G[idx]?).getD o' else o'
  have hG' : ∀ idx, G'[idx]? = if early idx then G[idx]? else H'[idx]? := by
    intro idx
    simp only [G', Array.getElem?_mapIdx]
    split
    · rename_i hx
      obtain ⟨h1, _, c, z, h2⟩ := hearly idx hx
      have hlt : idx < H'.size := by have := q2.size; have := q1.size; omega
      rw [Array.getElem?_eq_getElem hlt, h2]
      rfl
    · cases H'[idx]? <;> rfl
  have hback : ∀ idx e, idx < m.size → m'.has idx e → m.has idx e := by
    intro idx e h1 h2
    unfold AMap.has at *
    rw [← q1.eq _ h1]; exact h2
  refine ⟨m', w', x', q1, q4, i + 1, G', x, E.heavy_step v ho may hh q1 ?_ q3 hS (by rw [hH']; simp [G']) (fun idx hidx => ?_) (fun j q e hj hja he => ?_)⟩
  · exact
      { size := q2.size.trans (by simp [G'])
        os := q2.os.trans v.r.os, tape := q2.tape.trans v.r.tape, output := q2.output.trans v.r.output
        grow := Nat.le_trans v.r.grow q2.grow
        lt := v.r.lt
        keep := fun k hk => (q2.keep k (hFr k hk)).trans (v.r.keep k hk)
        obj := fun idx o' e hG he => by
          rw [hG'] at hG
          split at hG
          · rename_i hx
            have he' := hback idx e (hearly idx hx).1 he
            exact (v.r.obj idx o' e hG he').mono q1 fun _ => q2.keep _ (hFe idx e hx he')
          · rename_i hx
            have := q2.obj idx o' e hG he
            exact this.fence rfl fun hl hF => this.notFr hl (hFr _ hF)
        inj := fun k l ok ol ek el hkl hk hl lk ll hek hel => by
          rw [hG'] at hk hl
          split at hk
          · rename_i hxk
            have hek' := hback k ek (hearly k hxk).1 hek
            split at hl
            · rename_i hxl
              exact v.r.inj k l ok ol ek el hkl hk hl lk ll hek' (hback l el (hearly l hxl).1 hel)
            · intro h
              exact (q2.obj l ol el hl hel).notFr ll (h ▸ hFe k ek hxk hek')
          · split at hl
            · rename_i hxl
              have hel' := hback l el (hearly l hxl).1 hel
              intro h
              exact (q2.obj k ok ek hk hek).notFr lk (h ▸ hFe l el hxl hel')
            · exact q2.inj k l ok ol ek el hkl hk hl lk ll hek hel }
  · rw [hG', if_neg, hH']
    rintro ⟨j, q, hj, hja, _, rfl, _⟩
    exact hidx j q hj hja rfl
  · rw [hG', hH']
    by_cases hij : i < j
    · rw [if_pos hij, if_pos ⟨j, q, hj, hja, hij, rfl, e, he⟩]
    · rw [if_neg hij, if_neg]
      rintro ⟨j2, q2, hj2, hja2, hij2, heq, _⟩
      have : j = j2 := rank_inj hj hja hj2 hja2 (by omega)
      omega

/-- One operation, whenever it is drawn. -/
theorem Env.draw_step (hrec : RecOk C rec) (v : Inv C ops base S Fr wf m0 D K G T m w a) (hbase : m0.size = base) {i : Nat} {o : Oper} (ho : ops[i]? = some o) (may : May ops D i) :
    ∃ m' w' a' K' G' T', Inv C ops base S Fr wf m0 (fun q => D q ∨ q = i) K' G' T' m' w' a' ∧
      ∀ (b : Frame) (rest : List Nat) (k : List Item) (cs : List Frame), b.kind = .normal → Steps C.P (lone (b.atR a (.inRegion ops (i :: rest) :: k)) cs w) (lone (b.atR a' (.inRegion ops rest :: k)) cs w') := by
  have hwant : Region.wanted o (yielded ops a.tmps) = awanted ops o (S i).tmps := (awanted_rel v.tm).trans (E.want_eq v ho may)
  rcases E.kind ho with ⟨hw, hS⟩ | ⟨hw, x, H', hout, hS⟩
  · -- it is not carried out
    have hskip : ∀ (b : Frame) (rest : List Nat) (k : List Item) (cs : List Frame), b.kind = .normal → Steps C.P (lone (b.atR a (.inRegion ops (i :: rest) :: k)) cs w) (lone (b.atR (a.put o.dst undef) (.inRegion ops rest :: k)) cs w) := by
      intro b rest k cs hb
      refine .one ?_
      have := stepR_op_skip (P := C.P) (b := b) (a := a) (k := k) (cs := cs) (w := w) (ops := ops) (i := i) (rest := rest) (by
        simp only [ho, Option.map_some, Option.getD_some, hwant]
        simpa using hw)
      rw [ho] at this
      exact this
    cases hh : heavy o
    · exact ⟨m, w, _, K, G, _, E.still v ho may hh (fun _ => hw) .undef hS, hskip⟩
    · obtain ⟨b1, b2, b3, b4⟩ := E.rebase v ho may hh
      have hH : (S (i + 1)).H = (S i).H := by rw [hS, put_H]
      refine ⟨m, w, _, _, G, _, E.heavy_step v ho may hh (.refl m) v.r .undef hS (by rw [hH]; exact b2) (fun idx hidx => by rw [hH]; exact b3 idx hidx) (fun j q e hj hja he => ?_), hskip⟩
      obtain ⟨h1, h2, h3⟩ := b4 j q hj hja e he
      split
      · rfl
      · have : j ≠ i := by
          rintro rfl
          rw [ho] at hj; cases hj
          rw [alloc_not_heavy hja] at hh; cases hh
        rw [h3, hH, show max i (j + 1) = i by omega]
  · have hd := not_defer hout
    cases hal : isAlloc C.P o
    · cases hh : heavy o
      · -- it only reads
        have hρ : Operands m (aeval C.G T) a.eval := aeval_rel v.g v.tm
        obtain ⟨x1, hx1⟩ : ∃ x1, alight C.P (aeval C.G (S i).tmps) (S i).H o = some x1 ∧ x1 = x := by
          unfold aout at hout
          rw [hal, hh] at hout
          simp only [Bool.false_eq_true, if_false] at hout
          split at hout
          · rename_i x1 hx1
            simp only [Option.some.injEq, Prod.mk.injEq, true_and] at hout
            exact ⟨x1, hx1, hout.1⟩
          · simp at hout
        obtain ⟨hx1, rfl⟩ := hx1
        rw [alight_congr (E.ops_eq v ho may), alight_heap (H2 := G) fun blk full hr => by
          rw [← areads_congr (E.ops_eq v ho may)] at hr
          obtain ⟨e, he⟩ := areads_has (m := m) (ρ := aeval C.G T) (ρ' := a.eval) (o := o) hρ (by rw [← areads_congr (E.ops_eq v ho may)]; exact hr)
          exact E.light_sees v ho may hh hal hw hr he] at hx1
        obtain ⟨x', q1, q2⟩ := alight_run v.r hρ hx1
        exact ⟨m, w, _, K, G, _, E.still v ho may hh (by rw [hal]; intro h; cases h) q2 hS, fun b rest k cs hb => opSteps_value q1 hd b a ops i rest k cs hb ho (hwant.trans hw) rfl⟩
      · obtain ⟨m', w', x', _, q2, K', G', y, q3⟩ := E.heavy_run hrec v ho may hh hw
        exact ⟨m', w', _, K', G', _, q3, fun b rest k cs hb => q2 b a ops i rest k cs hb ho (hwant.trans hw) rfl⟩
    · obtain ⟨m', w', x', _, q2, G', y, q3⟩ := E.fill v hbase ho may hal hw
      exact ⟨m', w', _, K, G', _, q3, fun b rest k cs hb => opSteps_value q2 hd b a ops i rest k cs hb ho (hwant.trans hw) rfl⟩

end

theorem Inv.of_iff {C : Ctx} {ops : Array Oper} {base : Nat} {S : Nat → ASt} {Fr : Fence} {wf w : World} {m0 m : AMap} {D D2 : Nat → Prop} {K : Nat} {G : AHeap} {T : List Value} {a : Act}
    (v : Inv C ops base S Fr wf m0 D K G T m w a) (h : ∀ q, D q ↔ D2 q) : Inv C ops base S Fr wf m0 D2 K G T m w a := by
  have : D = D2 := funext fun q => propext (h q)
  subst this
  exact v

theorem count_set_false : ∀ (l : List Bool) (i n : Nat), l[i]? = some false → l.count false = n + 1 → (l.set i true).count false = n
  | [], i, n, h, _ => by simp at h
  | b :: l, 0, n, h, hc => by
    simp only [List.getElem?_cons_zero, Option.some.injEq] at h
    subst h
    simpa using hc
  | b :: l, i + 1, n, h, hc => by
    simp only [List.getElem?_cons_succ] at h
    simp only [List.set_cons_succ]
    cases b
    · simp only [List.count_cons_self] at hc ⊢
      have hpos : 0 < l.count false := List.count_pos_iff.2 (List.mem_of_getElem? h)
      have := count_set_false l i (n - 1) h (by omega)
      omega
    · rw [List.count_cons_of_ne (by decide)] at hc ⊢
      exact count_set_false l i n h hc

section
variable {C : Ctx} {rec : Req → Option Rep} {ops : Array Oper} {base : Nat} {S : Nat → ASt} {Fr : Fence} {wf : World} {m0 : AMap}

theorem Env.draw_go (E : Env C rec ops base S) (hrec : RecOk C rec) (hbase : m0.size = base) : ∀ (fuel t : Nat) (listed : Array Bool), listed.size = ops.size → listed.toList.count false = fuel → Closed ops listed →
    ∀ {K : Nat} {G : AHeap} {T : List Value} {m : AMap} {w : World} {a : Act}, Inv C ops base S Fr wf m0 (fun q => listed[q]? = some true) K G T m w a →
    ∃ m' w' a' K' G' T', Inv C ops base S Fr wf m0 (fun q => q < ops.size) K' G' T' m' w' a' ∧
      ∀ (b : Frame) (k : List Item) (cs : List Frame), b.kind = .normal → Steps C.P (lone (b.atR a (.inRegion ops (Region.linearise.go .any ops fuel t listed []) :: k)) cs w) (lone (b.atR a' k) cs w') := by
  intro fuel
  induction fuel with
  | zero =>
    intro t listed hsz hc hcl K G T m w a v
    refine ⟨m, w, a, K, G, T, v.of_iff fun q => ?_, fun b k cs hb => .one (by simp only [Region.linearise.go, List.reverse_nil]; exact stepR_region_end)⟩
    constructor
    · intro h
      rw [← hsz]; exact (Array.getElem?_eq_some_iff.1 h).1
    · intro h
      rw [← hsz] at h
      rw [Array.getElem?_eq_getElem h]
      have : false ∉ listed.toList := by rw [← List.count_eq_zero]; exact hc
      cases hv : listed[q]
      · exact absurd (by rw [← hv]; simp) this
      · rfl
  | succ fuel ih =>
    intro t listed hsz hc hcl K G T m w a v
    have hrs : Region.linearise.go .any ops (fuel + 1) t listed [] =
        match (Region.ready .any ops listed)[t % (Region.ready .any ops listed).length]? with
        | some i => Region.linearise.go .any ops fuel (t / (Region.ready .any ops listed).length) (listed.setIfInBounds i true) [i]
        | none => [] := rfl
    -- there is one that may be drawn
    have hex : ∃ j, j ∈ Region.ready .any ops listed := by
      have hmem : false ∈ listed.toList := by rw [← List.count_pos_iff]; omega
      obtain ⟨j0, hj0⟩ := List.mem_iff_getElem?.1 hmem
      have : ∃ j : Nat, listed[j]? = some false ∧ ∀ k : Nat, k < j → listed[k]? = some true := by
        have hp : ∃ j : Nat, listed[j]? = some false := ⟨j0, by simpa using hj0⟩
        clear hj0
        obtain ⟨j0, hj0⟩ := hp
        induction j0 using Nat.strongRecOn with
        | ind j ihj =>
          by_cases h : ∃ k : Nat, k < j ∧ listed[k]? = some false
          · obtain ⟨k, hk, hk2⟩ := h
            exact ihj k hk hk2
          · refine ⟨j, hj0, fun k hk => ?_⟩
            have hlt : k < listed.size := Nat.lt_trans hk (Array.getElem?_eq_some_iff.1 hj0).1
            rw [Array.getElem?_eq_getElem hlt]
            cases hv : listed[k]
            · exact absurd ⟨k, hk, by rw [Array.getElem?_eq_getElem hlt, hv]⟩ h
            · rfl
      obtain ⟨j, h1, h2⟩ := this
      have hj : j < ops.size := by rw [← hsz]; exact (Array.getElem?_eq_some_iff.1 h1).1
      have ho : ops[j]? = some ops[j] := by simp [hj]
      refine ⟨j, mem_ready.2 ⟨by rw [Array.getD_eq_getD_getElem?, h1]; rfl, _, ho, fun e he hb => ?_⟩⟩
      have := E.st.edges j _ ho e (by simpa using he) hb
      rw [Array.getD_eq_getD_getElem?, h2 _ this]; rfl
    have hlen : 0 < (Region.ready .any ops listed).length := by
      obtain ⟨j, hj⟩ := hex
      exact List.length_pos_of_mem hj
    have hmod := Nat.mod_lt t hlen
    cases hi : (Region.ready .any ops listed)[t % (Region.ready .any ops listed).length]? with
    | none => rw [List.getElem?_eq_getElem hmod] at hi; cases hi
    | some i =>
      rw [hi] at hrs
      simp only at hrs
      rw [linearise_go_acc _ _ _ _ _ [i]] at hrs
      simp only [List.reverse_cons, List.reverse_nil, List.nil_append, List.singleton_append] at hrs
      obtain ⟨r1, o, ho, r2⟩ := mem_ready.1 (List.mem_of_getElem? hi)
      have hi' : i < ops.size := (Array.getElem?_eq_some_iff.1 ho).1
      have hli : listed[i]? = some false := by
        have hlt : i < listed.size := by rw [hsz]; exact hi'
        rw [Array.getD_eq_getD_getElem?, Array.getElem?_eq_getElem hlt] at r1
        rw [Array.getElem?_eq_getElem hlt]
        simpa using r1
      have hall : ∀ e ∈ o.after.toList, Region.binds .any e = true → listed[e.on]? = some true := by
        intro e he hb
        have := r2 e (by simpa using he) hb
        rw [Array.getD_eq_getD_getElem?] at this
        cases hv : listed[e.on]? with
        | none => rw [hv] at this; cases this
        | some y => rw [hv] at this; simp at this; rw [this]
      have may : May ops (fun q => listed[q]? = some true) i :=
        { fresh := by simp [hli]
          ready := fun p hp => E.st.before hcl i o ho hall p hp
          down := fun q hq p hp => by
            have hq' : q < ops.size := by rw [← hsz]; exact (Array.getElem?_eq_some_iff.1 hq).1
            have hoq : ops[q]? = some ops[q] := by simp [hq']
            exact E.st.before hcl q _ hoq (fun e he hb => hcl q _ hoq hq e he hb) p hp }
      obtain ⟨m1, w1, a1, K1, G1, T1, v1, st1⟩ := E.draw_step hrec v hbase ho may
      have hset : ∀ q, (listed.setIfInBounds i true)[q]? = some true ↔ (listed[q]? = some true ∨ q = i) := by
        intro q
        rw [Array.getElem?_setIfInBounds]
        by_cases hqi : i = q
        · subst hqi
          simp [hsz, hi']
        · rw [if_neg hqi]
          exact ⟨.inl, fun h => h.resolve_right (Ne.symm hqi)⟩
      obtain ⟨m2, w2, a2, K2, G2, T2, v2, st2⟩ := ih (t / (Region.ready .any ops listed).length) (listed.setIfInBounds i true) (by simpa using hsz)
        (by rw [Array.toList_setIfInBounds]; exact count_set_false _ _ _ (by simpa using hli) hc)
        (fun j oj hj hl e he hb => by
          rw [hset] at hl ⊢
          rcases hl with hl | rfl
          · exact .inl (hcl j oj hj hl e he hb)
          · rw [ho] at hj; cases hj
            exact .inl (hall e he hb))
        (v1.of_iff fun q => (hset q).symm)
      refine ⟨m2, w2, a2, K2, G2, T2, v2, fun b k cs hb => ?_⟩
      rw [hrs]
      exact (st1 b _ k cs hb).trans (st2 b k cs hb)

end

/-- Regions that draw their order are as the interpreter says. -/
theorem draw_ok {C : Ctx} {rec : Req → Option Rep} (hrec : RecOk C rec) : DrawOk C rec := by
  intro id ops s s' e h Fr wf fn ro m w a hs
  simp only [aregion, if_true] at h
  split at h
  case isFalse => simp at h
  rename_i hstat
  split at h
  case h_2 => simp at h
  rename_i tr htr
  split at h
  case isFalse => simp at h
  rename_i hdyn
  rw [Option.map_eq_some_iff] at h
  obtain ⟨s1, hlast, heq⟩ := h
  simp only [Prod.mk.injEq] at heq
  obtain ⟨rfl, rfl⟩ := heq
  obtain ⟨S, hS0, hSn, E⟩ := env_of hstat htr hdyn hlast
  have hbase : m.size = s.H.size := hs.r.size
  let N := rank C.P ops ops.size
  let m1 : AMap := m ++ Array.replicate N none
  have hpre : m.pre m1 := ⟨by simp [m1], fun i hi => by simp only [m1]; rw [Array.getElem?_append, if_pos hi]⟩
  have hback : ∀ i e, m1.has i e → m.has i e := by
    intro i e h
    unfold AMap.has at *
    simp only [m1] at h
    rw [Array.getElem?_append] at h
    split at h
    · exact h
    · rw [Array.getElem?_replicate] at h
      split at h <;> simp at h
  have hold : ∀ i, i < s.H.size → (holes s.H N)[i]? = s.H[i]? := fun i hi => by unfold holes; rw [Array.getElem?_append, if_pos hi]
  let w1 : World := { w with drawn := w.drawn + 1 }
  have r1 : R Fr wf m1 (holes s.H N) w1 := by
    refine R.upd hs.r hpre.le (by simp [m1, holes, hbase]) rfl rfl rfl (Nat.le_refl _) (fun _ _ => rfl) fun i o e ho he => ?_
    have he' := hback i e he
    exact .inl ⟨by rw [← hold i (by rw [← hbase]; exact he'.lt)]; exact ho, he', fun _ => rfl⟩
  have hS0H : (S 0).H = holes s.H N := by rw [hS0]
  have v0 : Inv C ops s.H.size S Fr wf m (fun q : Nat => (Array.replicate ops.size false)[q]? = some true) 0 (holes s.H N) s.tmps m1 w1 a := by
    have hD : ∀ q : Nat, ¬ (Array.replicate ops.size false)[q]? = some true := by
      intro q h
      rw [Array.getElem?_replicate] at h
      split at h <;> simp at h
    have hout : ∀ j o, ops[j]? = some o → isAlloc C.P o = true → m1[s.H.size + rank C.P ops j]? = some none := by
      intro j o hj hja
      have : rank C.P ops j < N := rank_lt hj hja (Array.getElem?_eq_some_iff.1 hj).1
      simp only [m1]
      rw [Array.getElem?_append, if_neg (by omega), Array.getElem?_replicate, if_pos (by omega)]
    exact
      { hK := Nat.zero_le _
        heavyD := fun q o hq hh => ⟨fun h => absurd h (Nat.not_lt_zero _), fun h => absurd h (hD q)⟩
        r := r1
        pre0 := hpre
        low := by simp [m1, hbase, N]
        g := hs.g.mono hpre.le
        tm := hs.tmps.mono hpre.le
        dfs := by rw [hS0]; exact hs.dfs.mono hpre.le
        size := by rw [hS0H]
        away := fun idx _ => by rw [hS0H]
        mine := fun j o hj hja e he => by
          have := hout j o hj hja
          unfold AMap.has at he
          rw [this] at he; cases he
        none := fun j o hj hja _ => hout j o hj hja
        slot := fun d x hx h => by
          have := E.tstay d x 0 (Nat.zero_le _) hx fun p o h1 h2 hp hpd => hD p ((h p o hp hpd).1 h2)
          rw [← this, hS0] }
  obtain ⟨m2, w2, a2, K, G, T, v, st⟩ := E.draw_go (Fr := Fr) (wf := wf) hrec hbase ops.size (w.tape w.drawn (.order fn id)) (Array.replicate ops.size false) (by simp) (by simp) (by
    intro j o hj hl
    rw [Array.getElem?_replicate] at hl
    split at hl <;> simp at hl) v0
  have hK : ∀ p o, K ≤ p → p < ops.size → ops[p]? = some o → heavy o = false := by
    intro p o h1 h2 hp
    cases hv : heavy o
    · rfl
    · have := (v.heavyD p o hp hv).2 h2; omega
  have hT : T = (S ops.size).tmps := by
    refine List.ext_getElem? fun d => v.slot d ops.size (Nat.le_refl _) fun q o hq _ => Iff.rfl
  refine ⟨m2, w2, a2, v.pre0, ⟨?_, v.g, ?_, ?_⟩, fun b k cs hb => ?_⟩
  · rw [← hSn]
    refine v.r.congr (v.size.trans (E.size_stay _ _ v.hK (Nat.le_refl _) hK)) fun idx e he => ?_
    by_cases hx : ∃ j q, ops[j]? = some q ∧ isAlloc C.P q = true ∧ idx = s.H.size + rank C.P ops j
    · obtain ⟨j, q, hj, hja, rfl⟩ := hx
      obtain ⟨h1, h2, h3⟩ := v.mine j q hj hja e he
      have hjn : j < ops.size := (Array.getElem?_eq_some_iff.1 hj).1
      rw [h3]
      exact E.stay (fun x => x) _ _ _ (by have := v.hK; omega) (Nat.le_refl _) fun p o h1 h2 hp => ⟨fun hpa _ => Env.id_ne hj hja hp hpa (by omega), fun hph => by rw [hK p o (by omega) h2 hp] at hph; cases hph⟩
    · have hno : ∀ j q, ops[j]? = some q → isAlloc C.P q = true → idx ≠ s.H.size + rank C.P ops j := fun j q h1 h2 h3 => hx ⟨j, q, h1, h2, h3⟩
      rw [v.away idx hno]
      exact E.stay (fun x => x) _ _ _ v.hK (Nat.le_refl _) fun p o h1 h2 hp => ⟨fun hpa _ => hno p o hp hpa, fun hph => by rw [hK p o h1 h2 hp] at hph; cases hph⟩
  · rw [← hSn, ← hT]; exact v.tm
  · rw [← hSn, E.dfs (Nat.le_refl _)]; exact v.dfs
  · refine .trans (.one stepR_region_draw) ?_
    have hsch : Region.schedule (C.P.follows .mixedOrders) ops (w.tape w.drawn (.order b.fn id)) = Region.linearise.go .any ops ops.size (w.tape w.drawn (.order fn id)) (Array.replicate ops.size false) [] := by
      unfold Region.schedule
      rw [if_pos E.st.mixed, hb.2.1]
      rfl
    rw [hsch]
    exact st b k cs hb.1

end Go.Eng

namespace Go.Eng
open Go

/-- What rec answers, seq answers from some place on. -/
def Lim (seq : Nat → Req → Option Rep) (rec : Req → Option Rep) : Prop := ∀ q x, rec q = some x → ∃ n, ∀ k, n ≤ k → seq k q = some x

section
variable {C : Ctx} {seq : Nat → Req → Option Rep} {rec : Req → Option Rep} (L : Lim seq rec)
include L

theorem aout_lim {at_ : Option Nat} {o : Oper} {ρ : Operand → Option Value} {H : AHeap} {x : Bool × Value × AHeap} (h : aout C rec at_ o ρ H = some x) :
    ∃ n, ∀ k, n ≤ k → aout C (seq k) at_ o ρ H = some x := by
  unfold aout at h ⊢
  split at h
  · rename_i hal
    refine ⟨0, fun k _ => ?_⟩
    rw [if_pos hal]; exact h
  · rename_i hal
    simp only [if_neg hal]
    split at h
    · rename_i hh
      simp only [if_pos hh]
      cases ha : aheavy C ρ H o with
      | none => rw [ha] at h; simp at h
      | some p =>
        obtain ⟨out, H'⟩ := p
        rw [ha] at h
        cases out with
        | val v => exact ⟨0, fun k _ => h⟩
        | panic v => exact ⟨0, fun k _ => h⟩
        | enter f args =>
          simp only at h ⊢
          cases hr : rec (.call f args H') with
          | none => rw [hr] at h; simp at h
          | some rep =>
            obtain ⟨n, hn⟩ := L _ _ hr
            refine ⟨n, fun k hk => ?_⟩
            rw [hn k hk]; rw [hr] at h; exact h
        | round l args =>
          simp only at h ⊢
          cases hr : rec (.round l args H') with
          | none => rw [hr] at h; simp at h
          | some rep =>
            obtain ⟨n, hn⟩ := L _ _ hr
            refine ⟨n, fun k hk => ?_⟩
            rw [hn k hk]; rw [hr] at h; exact h
    · rename_i hh
      refine ⟨0, fun k _ => ?_⟩
      rw [if_neg hh]; exact h

theorem astep_lim {ops : Array Oper} {at_ : Option Nat} {i : Nat} {s : ASt} {x : AExit × ASt} (h : astep C rec ops at_ i s = some x) :
    ∃ n, ∀ k, n ≤ k → astep C (seq k) ops at_ i s = some x := by
  unfold astep at h ⊢
  split at h
  · simp at h
  · split at h
    · rename_i o ho hw
      unfold aop1 at h
      cases ha : aout C rec at_ o (aeval C.G s.tmps) s.H with
      | none => rw [ha] at h; simp at h
      | some p =>
        obtain ⟨n, hn⟩ := aout_lim L ha
        refine ⟨n, fun k hk => ?_⟩
        simp only [hw, if_true]
        unfold aop1
        rw [hn k hk]; rw [ha] at h; exact h
    · rename_i o ho hw
      exact ⟨0, fun k _ => by simp only [hw]; exact h⟩

theorem aops_lim {ops : Array Oper} : ∀ (l : List Nat) {s : ASt} {x : AExit × ASt}, aops C rec ops l s = some x → ∃ n, ∀ k, n ≤ k → aops C (seq k) ops l s = some x
  | [], s, x, h => ⟨0, fun k _ => h⟩
  | i :: r, s, x, h => by
    simp only [aops] at h ⊢
    cases hs : astep C rec ops none i s with
    | none => rw [hs] at h; simp at h
    | some p =>
      obtain ⟨n, hn⟩ := astep_lim L hs
      rw [hs] at h
      obtain ⟨e, s'⟩ := p
      cases e with
      | normal =>
        obtain ⟨n2, hn2⟩ := aops_lim r h
        exact ⟨max n n2, fun k hk => by rw [hn k (by omega)]; exact hn2 k (by omega)⟩
      | jump c => exact ⟨n, fun k hk => by rw [hn k hk]; exact h⟩
      | panic v => exact ⟨n, fun k hk => by rw [hn k hk]; exact h⟩

theorem atrace_lim {ops : Array Oper} {base : Nat} : ∀ (l : List Nat) {s : ASt} {x : List ASt}, atrace C rec ops base l s = some x → ∃ n, ∀ k, n ≤ k → atrace C (seq k) ops base l s = some x
  | [], s, x, h => ⟨0, fun k _ => h⟩
  | i :: r, s, x, h => by
    simp only [atrace] at h ⊢
    cases hs : astep C rec ops (some (base + rank C.P ops i)) i s with
    | none => rw [hs] at h; simp at h
    | some p =>
      obtain ⟨n, hn⟩ := astep_lim L hs
      rw [hs] at h
      obtain ⟨e, s'⟩ := p
      cases e with
      | normal =>
        simp only at h
        cases ht : atrace C rec ops base r s' with
        | none => rw [ht] at h; simp at h
        | some l =>
          obtain ⟨n2, hn2⟩ := atrace_lim r ht
          exact ⟨max n n2, fun k hk => by rw [hn k (by omega)]; simp only; rw [hn2 k (by omega)]; rw [ht] at h; exact h⟩
      | jump c => simp at h
      | panic v => simp at h

theorem aregion_lim {ops : Array Oper} {draw : Bool} {s : ASt} {x : AExit × ASt} (h : aregion C rec ops draw s = some x) : ∃ n, ∀ k, n ≤ k → aregion C (seq k) ops draw s = some x := by
  unfold aregion at h ⊢
  split at h
  · rename_i hd
    simp only [if_pos hd]
    split at h
    · rename_i hst
      simp only [if_pos hst]
      cases ht : atrace C rec ops s.H.size (List.range ops.size) { s with H := holes s.H (rank C.P ops ops.size) } with
      | none => rw [ht] at h; simp at h
      | some l =>
        obtain ⟨n, hn⟩ := atrace_lim L _ ht
        exact ⟨n, fun k hk => by rw [hn k hk]; rw [ht] at h; exact h⟩
    · simp at h
  · rename_i hd
    obtain ⟨n, hn⟩ := aops_lim L _ h
    exact ⟨n, fun k hk => by rw [if_neg hd]; exact hn k hk⟩

theorem acode_lim {fn : FuncId} {rd : Option Nat} : ∀ (c : Code) {s : ASt} {x : AExit × ASt}, acode C rec fn rd c s = some x → ∃ n, ∀ k, n ≤ k → acode C (seq k) fn rd c s = some x := by
  intro c
  induction c with
  | skip => intro s x h; exact ⟨0, fun k _ => h⟩
  | label l => intro s x h; exact ⟨0, fun k _ => h⟩
  | region id ops draw => intro s x h; exact aregion_lim L h
  | exit id => intro s x h; exact ⟨0, fun k _ => h⟩
  | goto l => intro s x h; exact ⟨0, fun k _ => h⟩
  | ret => intro s x h; exact ⟨0, fun k _ => h⟩
  | refuse m => intro s x h; simp [acode] at h
  | seq a b iha ihb =>
    intro s x h
    simp only [acode] at h ⊢
    cases ha : acode C rec fn rd a s with
    | none => rw [ha] at h; simp at h
    | some p =>
      obtain ⟨n, hn⟩ := iha ha
      rw [ha] at h
      obtain ⟨e, s'⟩ := p
      cases e with
      | normal =>
        obtain ⟨n2, hn2⟩ := ihb h
        exact ⟨max n n2, fun k hk => by rw [hn k (by omega)]; exact hn2 k (by omega)⟩
      | jump c => exact ⟨n, fun k hk => by rw [hn k hk]; exact h⟩
      | panic v => exact ⟨n, fun k hk => by rw [hn k hk]; exact h⟩
  | cond c a b iha ihb =>
    intro s x h
    simp only [acode] at h ⊢
    split at h
    · rename_i hc
      obtain ⟨n, hn⟩ := iha h
      exact ⟨n, fun k hk => by (try rw [hc]); exact hn k hk⟩
    · rename_i hc
      obtain ⟨n, hn⟩ := ihb h
      exact ⟨n, fun k hk => by (try rw [hc]); exact hn k hk⟩
    · simp at h
  | block id body ih =>
    intro s x h
    simp only [acode] at h ⊢
    cases hb : acode C rec fn rd body s with
    | none => rw [hb] at h; simp at h
    | some p =>
      obtain ⟨n, hn⟩ := ih hb
      exact ⟨n, fun k hk => by rw [hn k hk]; rw [hb] at h; exact h⟩
  | loop body ih =>
    intro s x h
    simp only [acode] at h ⊢
    cases hb : acode C rec fn rd body s with
    | none => rw [hb] at h; simp at h
    | some p =>
      obtain ⟨n, hn⟩ := ih hb
      rw [hb] at h
      obtain ⟨e, s'⟩ := p
      cases e with
      | normal =>
        simp only at h
        cases hr : rec (.loop fn rd body s') with
        | none => rw [hr] at h; simp at h
        | some rep =>
          obtain ⟨n2, hn2⟩ := L _ _ hr
          exact ⟨max n n2, fun k hk => by rw [hn k (by omega)]; simp only; rw [hn2 k (by omega)]; rw [hr] at h; exact h⟩
      | jump c => exact ⟨n, fun k hk => by rw [hn k hk]; exact h⟩
      | panic v => exact ⟨n, fun k hk => by rw [hn k hk]; exact h⟩
  | scope body ih =>
    intro s x h
    simp only [acode] at h ⊢
    cases hb : acode C rec fn rd body s with
    | none => rw [hb] at h; simp at h
    | some p =>
      obtain ⟨n, hn⟩ := ih hb
      rw [hb] at h
      obtain ⟨e, s'⟩ := p
      cases e with
      | normal => exact ⟨n, fun k hk => by rw [hn k hk]; exact h⟩
      | panic v => exact ⟨n, fun k hk => by rw [hn k hk]; exact h⟩
      | jump c =>
        cases c with
        | goto l =>
          simp only at h
          cases hl : findLabel body l with
          | none => exact ⟨n, fun k hk => by rw [hn k hk]; simp only [hl]; rw [hl] at h; exact h⟩
          | some rest =>
            rw [hl] at h
            simp only at h
            cases hr : rec (.scope fn rd body rest s') with
            | none => rw [hr] at h; simp at h
            | some rep =>
              obtain ⟨n2, hn2⟩ := L _ _ hr
              exact ⟨max n n2, fun k hk => by rw [hn k (by omega)]; simp only [hl]; rw [hn2 k (by omega)]; rw [hr] at h; exact h⟩
        | _ => exact ⟨n, fun k hk => by rw [hn k hk]; exact h⟩
  | rangeFunc f params assign body _ _ =>
    intro s x h
    simp only [acode] at h ⊢
    split at h
    · rename_i g first cap hf
      split at h
      · simp at h
      · rename_i H1 D dfs1 he
        try simp only at h
        cases hr : rec (.call g (first ++ [.func (.yield H1.size) #[] #[]] ++ cap) (H1.push (.loop { state := .ready, pending := none, fn, tmps := ⟨s.tmps⟩, params, assign, body, defers := D }))) with
        | none => rw [hr] at h; simp at h
        | some rep =>
          obtain ⟨n, hn⟩ := L _ _ hr
          refine ⟨n, fun k hk => ?_⟩
          try rw [hf]
          try simp only [he]
          rw [hn k hk]; rw [hr] at h; exact h
    · simp at h

theorem step1_lim {q : Req} {x : Rep} (h : step1 C rec q = some x) : ∃ n, ∀ k, n ≤ k → step1 C (seq k) q = some x := by
  cases q with
  | call f args H =>
    simp only [step1] at h ⊢
    split at h
    · rename_i g hg
      exact ⟨0, fun k _ => by (try simp only [hg]); exact h⟩
    · rename_i hg
      try simp only [hg]
      split at h
      · simp at h
      · rename_i fn hf
        try simp only [hf]
        split at h
        · simp at h
        · rename_i c hb
          try simp only [hb]
          cases ha : acode C rec f none c { tmps := args ++ List.replicate (fn.ntmps - args.length) undef, H, dfs := [] } with
          | none => rw [ha] at h; simp at h
          | some p =>
            obtain ⟨n, hn⟩ := acode_lim L c ha
            exact ⟨n, fun k hk => by rw [hn k hk]; rw [ha] at h; exact h⟩
  | round l args H =>
    simp only [step1] at h ⊢
    split at h
    · rename_i r hr
      try simp only [hr]
      split at h
      · rename_i hl
        try simp only [if_pos hl]
        cases ha : acode C rec r.fn (some l) r.assign { tmps := setParams r.params.toList args r.tmps.toList, H, dfs := [] } with
        | none => rw [ha] at h; simp at h
        | some p =>
          obtain ⟨n, hn⟩ := acode_lim L _ ha
          rw [ha] at h
          obtain ⟨e, s1⟩ := p
          cases e with
          | jump c => simp at h
          | panic v => simp at h
          | normal =>
            simp only at h
            split at h
            · rename_i r1 hr1
              split at h
              · rename_i hst
                cases hb : acode C rec r.fn (some l) r.body { tmps := s1.tmps, H := s1.H.setIfInBounds l (.loop { r1 with state := .busy }), dfs := s1.dfs } with
                | none => rw [hb] at h; simp at h
                | some p2 =>
                  obtain ⟨n2, hn2⟩ := acode_lim L _ hb
                  refine ⟨max n n2, fun k hk => ?_⟩
                  rw [hn k (by omega)]
                  try simp only [hr1, hst]
                  rw [hn2 k (by omega)]; rw [hb] at h; exact h
              · simp at h
            · simp at h
      · simp at h
    · simp at h
  | loop fn rd c s =>
    simp only [step1] at h ⊢
    cases ha : acode C rec fn rd c s with
    | none => rw [ha] at h; simp at h
    | some p =>
      obtain ⟨n, hn⟩ := acode_lim L _ ha
      rw [ha] at h
      obtain ⟨e, s'⟩ := p
      cases e with
      | normal =>
        simp only at h
        cases hr : rec (.loop fn rd c s') with
        | none => rw [hr] at h; simp at h
        | some rep =>
          obtain ⟨n2, hn2⟩ := L _ _ hr
          exact ⟨max n n2, fun k hk => by rw [hn k (by omega)]; simp only; rw [hn2 k (by omega)]; rw [hr] at h; exact h⟩
      | jump c => exact ⟨n, fun k hk => by rw [hn k hk]; exact h⟩
      | panic v => exact ⟨n, fun k hk => by rw [hn k hk]; exact h⟩
  | scope fn rd body rest s =>
    simp only [step1] at h ⊢
    cases ha : acode C rec fn rd rest s with
    | none => rw [ha] at h; simp at h
    | some p =>
      obtain ⟨n, hn⟩ := acode_lim L _ ha
      rw [ha] at h
      obtain ⟨e, s'⟩ := p
      cases e with
      | normal => exact ⟨n, fun k hk => by rw [hn k hk]; exact h⟩
      | panic v => exact ⟨n, fun k hk => by rw [hn k hk]; exact h⟩
      | jump c =>
        cases c with
        | goto l =>
          simp only at h
          cases hl : findLabel body l with
          | none => exact ⟨n, fun k hk => by rw [hn k hk]; simp only [hl]; rw [hl] at h; exact h⟩
          | some rest' =>
            rw [hl] at h
            simp only at h
            cases hr : rec (.scope fn rd body rest' s') with
            | none => rw [hr] at h; simp at h
            | some rep =>
              obtain ⟨n2, hn2⟩ := L _ _ hr
              exact ⟨max n n2, fun k hk => by rw [hn k (by omega)]; simp only [hl]; rw [hn2 k (by omega)]; rw [hr] at h; exact h⟩
        | _ => exact ⟨n, fun k hk => by rw [hn k hk]; exact h⟩
end

open Classical in
/-- What the interpreter answers from some depth on. -/
noncomputable def evw (C : Ctx) (q : Req) : Option Rep := if h : ∃ x, ∃ n, ∀ k, n ≤ k → ev C k q = some x then some h.choose else none

theorem evw_lim (C : Ctx) : Lim (ev C) (evw C) := by
  intro q x h
  unfold evw at h
  split at h
  · rename_i hx
    simp only [Option.some.injEq] at h
    subst h
    exact hx.choose_spec
  · simp at h

theorem evw_of {C : Ctx} {q : Req} {x : Rep} (h : ∃ n, ∀ k, n ≤ k → ev C k q = some x) : evw C q = some x := by
  have hx : ∃ x, ∃ n, ∀ k, n ≤ k → ev C k q = some x := ⟨x, h⟩
  unfold evw
  rw [dif_pos hx]
  obtain ⟨n, hn⟩ := h
  obtain ⟨n2, hn2⟩ := hx.choose_spec
  have h1 := hn (max n n2) (by omega)
  rw [hn2 (max n n2) (by omega)] at h1
  exact h1

/-- One level more. -/
theorem evw_step {C : Ctx} {q : Req} {x : Rep} (h : step1 C (evw C) q = some x) : evw C q = some x := by
  obtain ⟨n, hn⟩ := step1_lim (evw_lim C) h
  refine evw_of ⟨n + 1, fun k hk => ?_⟩
  obtain ⟨k, rfl⟩ : ∃ j, k = j + 1 := ⟨k - 1, by omega⟩
  exact hn k (by omega)

theorem ev_ok {C : Ctx} (hC : CtxOk C) (n : Nat) : RecOk2 C (ev C n) := ev_sound hC (fun _ h => draw_ok h) n

theorem evw_ok {C : Ctx} (hC : CtxOk C) : RecOk2 C (evw C) where
  call f args H rep h := let ⟨n, hn⟩ := evw_lim C _ _ h; (ev_ok hC n).call f args H rep (hn n (Nat.le_refl _))
  round l args H rep h := let ⟨n, hn⟩ := evw_lim C _ _ h; (ev_ok hC n).round l args H rep (hn n (Nat.le_refl _))
  loop fn rd c s e s' h := let ⟨n, hn⟩ := evw_lim C _ _ h; (ev_ok hC n).loop fn rd c s e s' (hn n (Nat.le_refl _))
  scope fn rd body rest s e s' h := let ⟨n, hn⟩ := evw_lim C _ _ h; (ev_ok hC n).scope fn rd body rest s e s' (hn n (Nat.le_refl _))

end Go.Eng

namespace Go.Eng
open Go

def Ext (H H' : AHeap) : Prop := ∀ (b : Nat) (o : AObj), H[b]? = some o → H'[b]? = some o

theorem Ext.refl (H : AHeap) : Ext H H := fun _ _ h => h
theorem Ext.trans {a b c : AHeap} (h : Ext a b) (k : Ext b c) : Ext a c := fun i o x => k i o (h i o x)
theorem Ext.push (H : AHeap) (o : AObj) : Ext H (H.push o) := by
  intro b x h
  have : b < H.size := (Array.getElem?_eq_some_iff.1 h).1
  rw [Array.getElem?_push, if_neg (by omega)]; exact h

section
variable {P : Program}

/-- Do a struct's fields lie side by side? -/
def contig (P : Program) : Nat → List Field → Nat → Bool
  | o, [], tot => o == tot
  | o, f :: fs, tot => f.offset == o && contig P (o + P.cellsOf f.type) fs tot

/-- Types of plain data. -/
def plainT (P : Program) : Nat → TypeId → Bool
  | 0, _ => false
  | n + 1, t => match P.underlying t with
    | some .bool => true
    | some (.int _) => true
    | some .string => true
    | some (.slice e) => decide (0 < P.cellsOf e) && plainT P n e
    | some (.struct fs) => contig P 0 fs.toList (P.cellsOf t) && fs.toList.all fun f => plainT P n f.type
    | _ => false

/-- The cells of one value of a type of plain data, of bulk k at least, whose memory may only be read. -/
def Typed (P : Program) (H : AHeap) : Nat → TypeId → List Value → Nat → Prop
  | 0, _, _, _ => False
  | n + 1, t, acs, k => match P.underlying t with
    | some .bool => (∃ b, acs = [.bool b]) ∧ k = 1
    | some (.int q) => (∃ z, acs = [.int q z] ∧ (Lit.int q z).wf = true) ∧ k = 1
    | some .string => ∃ s : ByteArray, acs = [.string s] ∧ k = s.size + 1
    | some (.slice e) => (acs = [.slice none 0 0] ∧ k = 1) ∨
      ∃ (b len cap : Nat) (c : List Value) (K : Nat → Nat), acs = [.slice (some (at0 b)) len cap] ∧ len ≤ cap ∧ H[b]? = some (.cells c .ro) ∧ c.length = cap * P.cellsOf e ∧
        k = ((List.range cap).map K).sum + 1 ∧ ∀ i, i < cap → Typed P H n e ((c.drop (i * P.cellsOf e)).take (P.cellsOf e)) (K i)
    | some (.struct fs) => acs.length = P.cellsOf t ∧ ∃ K : Nat → Nat, k = ((List.range fs.size).map K).sum + 1 ∧
        ∀ (i : Nat) (f : Field), fs[i]? = some f → Typed P H n f.type ((acs.drop f.offset).take (P.cellsOf f.type)) (K i)
    | _ => False

theorem Typed.mono {H H' : AHeap} (h : Ext H H') : ∀ (n : Nat) (t : TypeId) (acs : List Value) (k : Nat), Typed P H n t acs k → Typed P H' n t acs k
  | 0, _, _, _, x => x
  | n + 1, t, acs, k, x => by
    unfold Typed at x ⊢
    split at x
    · exact x
    · exact x
    · exact x
    · rcases x with x | ⟨b, len, cap, c, K, h1, h2, h3, h4, h5, h6⟩
      · exact .inl x
      · exact .inr ⟨b, len, cap, c, K, h1, h2, h _ _ h3, h4, h5, fun i hi => (h6 i hi).mono h⟩
    · obtain ⟨h1, K, h2, h3⟩ := x
      exact ⟨h1, K, h2, fun i f hf => (h3 i f hf).mono h⟩
    · exact x

mutual
/-- How many values and letters a reading holds. -/
def bulkW {H : Type} : DataW H → Nat
  | .lit (.string bytes) => bytes.length + 1
  | .lit _ => 1
  | .nil => 1
  | .ptr d => bulkW d + 1
  | .slice elems spare => bulkAll elems + bulkAll spare + 1
  | .agg parts => bulkAll parts + 1
  | .iface _ d => bulkW d + 1
  | .map _ => 1
  | .held _ => 1
def bulkAll {H : Type} : List (DataW H) → Nat
  | [] => 0
  | d :: r => bulkW d + bulkAll r
end

theorem bulkAll_sum {H : Type} : ∀ l : List (DataW H), bulkAll l = (l.map bulkW).sum
  | [] => rfl
  | d :: r => by simp [bulkAll, bulkAll_sum r]

variable {Fr : Fence} {wf w : World} {m : AMap} {H : AHeap}

theorem R.pushRo (r : R Fr wf m H w) {e : MEnt} {c : List Value} (h1 : Fr.ro e.blk) (h2 : e.esz = 0) (h3 : CellsIn m w e c) : R Fr wf (m.push (some e)) (H.push (.cells c .ro)) w := by
  refine r.upd (AMap.pre_push m _).le (by simp [r.size]) rfl rfl rfl (Nat.le_refl _) (fun _ _ => rfl) fun i o e' hi he => ?_
  by_cases hib : i = H.size
  · subst hib
    rw [Array.getElem?_push, if_pos rfl] at hi
    cases hi
    have := (AMap.has_push m e)
    rw [r.size] at this
    obtain rfl := this.inj he
    exact .inr ⟨⟨h1, h2, h3.mono (AMap.pre_push m _).le rfl⟩, fun hl => by cases hl⟩
  · rw [Array.getElem?_push, if_neg hib] at hi
    unfold AMap.has at he
    rw [Array.getElem?_push, if_neg (by rw [r.size]; exact hib)] at he
    exact .inl ⟨hi, he, fun _ => rfl⟩

/-- What is known when one value is laid: its abstract cells, and how much it holds. -/
def Laid (Fr : Fence) (wf w : World) (m : AMap) (H : AHeap) (m' : AMap) (H' : AHeap) : Prop := R Fr wf m' H' w ∧ m.pre m' ∧ Ext H H'

theorem Laid.trans {m1 m2 : AMap} {H1 H2 : AHeap} (a : Laid Fr wf w m H m1 H1) (b : Laid Fr wf w m1 H1 m2 H2) : Laid Fr wf w m H m2 H2 := ⟨b.1, a.2.1.trans b.2.1, a.2.2.trans b.2.2⟩

theorem lay_all {n : Nat} {e : TypeId} {cs : Nat → List Value} {kk : Nat → Nat} : ∀ (N : Nat),
    (∀ i, i < N → ∀ m H, R Fr wf m H w → ∃ m' H' acs k, Laid Fr wf w m H m' H' ∧ LRel m' acs (cs i) ∧ Typed P H' n e acs k ∧ k ≤ kk i) →
    R Fr wf m H w → ∃ (m' : AMap) (H' : AHeap) (A : Nat → List Value) (K : Nat → Nat), Laid Fr wf w m H m' H' ∧ ∀ i, i < N → LRel m' (A i) (cs i) ∧ Typed P H' n e (A i) (K i) ∧ K i ≤ kk i
  | 0, _, r => ⟨m, H, fun _ => [], fun _ => 0, ⟨r, .refl m, .refl H⟩, fun i hi => absurd hi (Nat.not_lt_zero i)⟩
  | N + 1, h, r => by
    obtain ⟨m1, H1, A, K, l1, h1⟩ := lay_all N (fun i hi => h i (by omega)) r
    obtain ⟨m2, H2, acs, k, l2, q1, q2, q3⟩ := h N (by omega) m1 H1 l1.1
    refine ⟨m2, H2, fun i => if i = N then acs else A i, fun i => if i = N then k else K i, l1.trans l2, fun i hi => ?_⟩
    by_cases hiN : i = N
    · subst hiN
      simp only [if_true]; exact ⟨q1, q2, q3⟩
    · simp only [if_neg hiN]
      obtain ⟨g1, g2, g3⟩ := h1 i (by omega)
      exact ⟨g1.mono l2.2.1, g2.mono l2.2.2, g3⟩

theorem sum_le {N : Nat} {K L : Nat → Nat} (h : ∀ i, i < N → K i ≤ L i) : ((List.range N).map K).sum ≤ ((List.range N).map L).sum := by
  induction N with
  | zero => simp
  | succ N ih =>
    simp only [List.range_succ, List.map_append, List.sum_append, List.map_cons, List.map_nil, List.sum_cons, List.sum_nil]
    have := ih fun i hi => h i (by omega)
    have := h N (by omega)
    omega

/-- What a window of the model's cells is. -/
theorem window_of {a : Addr} {n : Nat} {cs : List Value} (h : w.cells? 0 a n = some cs) : cs.length = n ∧ ∀ i, i < n → w.cell? (a.add i) = cs[i]? := by
  simp only [World.cells?, Nat.zero_le, if_true] at h
  have hl : ∀ (l : List Nat) (cs : List Value), l.mapM (fun i => w.cell? (a.add i)) = some cs → cs.length = l.length ∧ ∀ j, j < l.length → w.cell? (a.add (l.getD j 0)) = cs[j]? := by
    intro l
    induction l with
    | nil => intro cs h; simp at h; subst h; simp
    | cons x l ih =>
      intro cs h
      simp only [List.mapM_cons, Option.bind_eq_bind, Option.bind_eq_some_iff, Option.pure_def, Option.some.injEq] at h
      obtain ⟨v, hv, r, hr, rfl⟩ := h
      obtain ⟨h1, h2⟩ := ih r hr
      refine ⟨by simp [h1], fun j hj => ?_⟩
      cases j with
      | zero => simpa using hv
      | succ j => simpa using h2 j (by simpa using hj)
  obtain ⟨h1, h2⟩ := hl _ _ h
  refine ⟨by simpa using h1, fun i hi => ?_⟩
  have := h2 i (by simpa using hi)
  simpa [List.getD, hi] using this

theorem Typed.length {n : Nat} {e : TypeId} {acs cs : List Value} (h : LRel m acs cs) (hl : cs.length = n) (_ : e = e) : acs.length = n := by rw [h.length, hl]

/-- The cells of rows side by side. -/
def rowCells (sz N : Nat) (A : Nat → List Value) : List Value := (List.range (N * sz)).map fun i => ((A (i / sz))[i % sz]?).getD undef

theorem rowCells_get {sz N : Nat} {A : Nat → List Value} (hsz : 0 < sz) (hA : ∀ i, i < N → (A i).length = sz) {i : Nat} (hi : i < N) : ((rowCells sz N A).drop (i * sz)).take sz = A i := by
  have hN : (i + 1) * sz ≤ N * sz := Nat.mul_le_mul_right _ hi
  rw [Nat.add_mul, Nat.one_mul] at hN
  refine List.ext_getElem? fun j => ?_
  rw [List.getElem?_take, List.getElem?_drop]
  split
  · rename_i hj
    have h1 : (i * sz + j) / sz = i := by
      rw [Nat.mul_comm, Nat.mul_add_div hsz, Nat.div_eq_of_lt hj, Nat.add_zero]
    have h2 : (i * sz + j) % sz = j := by
      rw [Nat.mul_comm, Nat.mul_add_mod, Nat.mod_eq_of_lt hj]
    have hlt : i * sz + j < N * sz := by omega
    have hlj : j < (A i).length := by rw [hA i hi]; exact hj
    simp [rowCells, hlt, h1, h2, hlj]
  · rename_i hj
    exact (List.getElem?_eq_none (by rw [hA i hi]; omega)).symm

theorem addr_add' (a : Addr) (hs : a.spot = none) (i : Nat) : a.add i = ⟨a.block, a.off + i, none⟩ := by
  obtain ⟨b, o, s⟩ := a
  simp only at hs
  subst hs
  unfold Addr.add
  split
  · rename_i h; subst h; rfl
  · rfl

/-- ONE READING IS LAID. -/
theorem lay {A : Type} {enc : TypeId × Value → A} {held : Bool} (hro : ∀ k, k < w.heap.size → Fr.ro k) (hdum : ∃ (b : Nat) (cs : Array Value) (el : TypeId) (fz : Nat × Nat), w.heap[b]? = some (.cells cs el fz)) :
    ∀ (p : Nat) (t : TypeId) (n : Nat) (cs : List Value) (d : DataW A) (ps : List MemPlace), plainT P p t = true → DataW.trod enc P w 0 (fun _ => true) held n t cs = some (d, ps) →
    ∀ m H, R Fr wf m H w → ∃ m' H' acs k, Laid Fr wf w m H m' H' ∧ LRel m' acs cs ∧ Typed P H' p t acs k ∧ k ≤ bulkW d := by
  intro p
  induction p with
  | zero => intro t n cs d ps hp; simp [plainT] at hp
  | succ p ih =>
    intro t n cs d ps hp h m H r
    unfold plainT at hp
    cases hu : P.underlying t with
    | none => rw [hu] at hp; simp at hp
    | some u =>
      rw [hu] at hp
      cases u with
      | bool =>
        obtain ⟨b, rfl, hx⟩ := DataW.trod_bool hu h
        simp only [Prod.mk.injEq] at hx
        obtain ⟨rfl, rfl⟩ := hx
        exact ⟨m, H, _, 1, ⟨r, .refl m, .refl H⟩, .cons (.bool b) .nil, by unfold Typed; rw [hu]; exact ⟨⟨b, rfl⟩, rfl⟩, by simp [bulkW]⟩
      | int q =>
        obtain ⟨z, rfl, hx, hw⟩ := DataW.trod_int hu h
        simp only [Prod.mk.injEq] at hx
        obtain ⟨rfl, rfl⟩ := hx
        exact ⟨m, H, _, 1, ⟨r, .refl m, .refl H⟩, .cons (.int q z) .nil, by unfold Typed; rw [hu]; exact ⟨⟨z, rfl, hw⟩, rfl⟩, by simp [bulkW]⟩
      | string =>
        obtain ⟨s, rfl, hx, hw⟩ := DataW.trod_string hu h
        simp only [Prod.mk.injEq] at hx
        obtain ⟨rfl, rfl⟩ := hx
        exact ⟨m, H, _, s.size + 1, ⟨r, .refl m, .refl H⟩, .cons (.string s) .nil, by unfold Typed; rw [hu]; exact ⟨s, rfl, rfl⟩, by simp [bulkW]⟩
      | slice e =>
        simp only [Bool.and_eq_true, decide_eq_true_eq] at hp
        obtain ⟨hsz, hpe⟩ := hp
        rcases Deep.open_slice hu h with ⟨rfl, hx⟩ | ⟨a, len, cap, mm, n', D, Pl, rfl, _, hlc, hcm, hmm, hx, hel⟩
        · simp only [Prod.mk.injEq] at hx
          obtain ⟨rfl, rfl⟩ := hx
          exact ⟨m, H, _, 1, ⟨r, .refl m, .refl H⟩, .cons .slice0 .nil, by unfold Typed; rw [hu]; exact .inl ⟨rfl, rfl⟩, by simp [bulkW]⟩
        · simp only [if_true] at hmm
          subst hmm
          simp only [Prod.mk.injEq] at hx
          obtain ⟨rfl, rfl⟩ := hx
          have hbulk : ∀ K : Nat → Nat, (∀ i, i < mm → K i ≤ bulkW (D i)) → ((List.range mm).map K).sum + 1 ≤ bulkW (DataW.slice ((List.range len).map D) ((List.range (mm - len)).map fun j => D (len + j))) := by
            intro K hK
            have h1 := sum_le hK
            rw [Deep.range_split hlc] at h1
            simp only [bulkW, bulkAll_sum, List.map_map]
            rw [Deep.range_split hlc]
            simp only [List.map_append, List.sum_append, List.map_map] at h1 ⊢
            have e1 : ((fun x => bulkW (D x)) ∘ fun x => len + x) = bulkW ∘ fun j => D (len + j) := rfl
            have e2 : (fun i => bulkW (D i)) = bulkW ∘ D := rfl
            rw [e1, e2] at h1
            omega
          by_cases hc0 : mm = 0
          · -- none
            subst hc0
            obtain rfl : len = 0 := by omega
            obtain ⟨b0, c0, el, fz, hd⟩ := hdum
            have hlt : b0 < w.heap.size := (Array.getElem?_eq_some_iff.1 hd).1
            let e0 : MEnt := ⟨b0, 0, c0.size, 0⟩
            have r1 := r.pushRo (e := e0) (c := []) (hro b0 hlt) rfl ⟨c0, el, fz, hd, rfl, by simp [e0], by simpa using LRel.nil⟩
            have hh : AMap.has (m.push (some e0)) H.size e0 := by rw [← r.size]; exact AMap.has_push m e0
            refine ⟨_, _, [.slice (some (at0 H.size)) 0 0], 1, ⟨r1, AMap.pre_push m _, Ext.push H _⟩, .cons (.sliceE hh) .nil, ?_, by simp [bulkW]⟩
            unfold Typed
            rw [hu]
            exact .inr ⟨H.size, 0, 0, [], fun _ => 0, rfl, Nat.le_refl _, by simp, by simp, by simp, fun i hi => absurd hi (Nat.not_lt_zero i)⟩
          · -- its elements, one by one
            have hcell : ∀ i, i < mm → ∃ cs', w.cells? 0 (a.add (i * P.cellsOf e)) (P.cellsOf e) = some cs' ∧ DataW.trod enc P w 0 (fun _ => true) held n' e cs' = some (D i, Pl i) := hel
            obtain ⟨CS, hCS⟩ : ∃ CS : Nat → List Value, ∀ i, i < mm → w.cells? 0 (a.add (i * P.cellsOf e)) (P.cellsOf e) = some (CS i) ∧ DataW.trod enc P w 0 (fun _ => true) held n' e (CS i) = some (D i, Pl i) := by
              classical
              refine ⟨fun i => if hi : i < mm then (hcell i hi).choose else [], fun i hi => ?_⟩
              simp only [dif_pos hi]
              exact (hcell i hi).choose_spec
            obtain ⟨m1, H1, A, K, l1, h1⟩ := lay_all (P := P) (n := p) (e := e) (cs := CS) (kk := fun i => bulkW (D i)) mm (fun i hi m H r => ih e n' (CS i) (D i) (Pl i) hpe (hCS i hi).2 m H r) r
            -- the block
            have hwin : ∀ i, i < mm → (CS i).length = P.cellsOf e ∧ ∀ j, j < P.cellsOf e → w.cell? ((a.add (i * P.cellsOf e)).add j) = (CS i)[j]? := fun i hi => window_of (hCS i hi).1
            have h00 : w.cell? a = (CS 0)[0]? := by
              have := (hwin 0 (by omega)).2 0 hsz
              simpa [Addr.add] using this
            have hlen0 : 0 < (CS 0).length := by rw [(hwin 0 (by omega)).1]; exact hsz
            rw [List.getElem?_eq_getElem hlen0] at h00
            unfold World.cell? at h00
            split at h00
            · rename_i c0 el fz hblk
              have hsp : a.spot = none := by
                cases hs : a.spot with
                | none => rfl
                | some x => rw [hs] at h00; simp at h00
              have hlt : a.block < w.heap.size := (Array.getElem?_eq_some_iff.1 hblk).1
              have hAl : ∀ i, i < mm → (A i).length = P.cellsOf e := fun i hi => by rw [(h1 i hi).1.length, (hwin i hi).1]
              have hget : ∀ i j, i < mm → j < P.cellsOf e → c0[a.off + (i * P.cellsOf e + j)]? = (CS i)[j]? := by
                intro i j hi hj
                have := (hwin i hi).2 j hj
                rw [Deep.add_add, addr_add' a hsp] at this
                simpa [World.cell?, hblk] using this
              let c := rowCells (P.cellsOf e) mm A
              have hcl : c.length = mm * P.cellsOf e := by simp [c, rowCells]
              have hfit : a.off + mm * P.cellsOf e ≤ c0.size := by
                have h2 := hget (mm - 1) (P.cellsOf e - 1) (by omega) (by omega)
                have hl2 : P.cellsOf e - 1 < (CS (mm - 1)).length := by rw [(hwin (mm - 1) (by omega)).1]; omega
                rw [List.getElem?_eq_getElem hl2] at h2
                have := (Array.getElem?_eq_some_iff.1 h2).1
                have h3 : mm * P.cellsOf e = (mm - 1) * P.cellsOf e + P.cellsOf e := by
                  rw [← Nat.succ_mul]; congr 1; omega
                omega
              have hrel : LRel m1 c ((c0.toList.drop a.off).take c.length) := by
                refine LRel.of_get (by simp [hcl]; omega) fun q v hv => ?_
                have hq : q < mm * P.cellsOf e := by rw [← hcl]; exact (List.getElem?_eq_some_iff.1 hv).1
                have hdiv : q / P.cellsOf e < mm := Nat.div_lt_of_lt_mul (by rw [Nat.mul_comm]; exact hq)
                have hmod : q % P.cellsOf e < P.cellsOf e := Nat.mod_lt _ hsz
                have hAq : (A (q / P.cellsOf e))[q % P.cellsOf e]? = some v := by
                  have hl3 : q % P.cellsOf e < (A (q / P.cellsOf e)).length := by rw [hAl _ hdiv]; exact hmod
                  rw [List.getElem?_eq_getElem hl3]
                  simp only [c, rowCells, List.getElem?_map, List.getElem?_range hq, Option.map_some, List.getElem?_eq_getElem hl3, Option.getD_some, Option.some.injEq] at hv
                  rw [hv]
                obtain ⟨v', g1, g2⟩ := (h1 _ hdiv).1.get hAq
                refine ⟨v', ?_, g2⟩
                rw [List.getElem?_take, if_pos (by rw [hcl]; exact hq), List.getElem?_drop]
                have := hget _ _ hdiv hmod
                rw [Nat.div_add_mod' q] at this
                simpa [g1] using this
              let e1 : MEnt := ⟨a.block, a.off, c0.size, 0⟩
              have r2 := l1.1.pushRo (e := e1) (c := c) (hro _ hlt) rfl ⟨c0, el, fz, hblk, rfl, by rw [hcl]; exact hfit, hrel⟩
              have hh : AMap.has (m1.push (some e1)) H1.size e1 := by rw [← l1.1.size]; exact AMap.has_push m1 e1
              refine ⟨_, _, [.slice (some (at0 H1.size)) len mm], ((List.range mm).map K).sum + 1, l1.trans ⟨r2, AMap.pre_push m1 _, Ext.push H1 _⟩, ?_, ?_, hbulk K fun i hi => (h1 i hi).2.2⟩
              · refine .cons ?_ .nil
                have := VRel.slice (o := 0) (o' := a.off) (n := len) (c := mm) (c' := mm) hh hlc (Nat.le_refl _) (.inl (by simp [e1])) (.inl rfl)
                rw [show (a : Addr) = ⟨e1.blk, a.off, none⟩ by
                  obtain ⟨ab, ao, as⟩ := a
                  simp only at hsp
                  subst hsp
                  rfl]
                exact this
              · unfold Typed
                rw [hu]
                refine .inr ⟨H1.size, len, mm, c, K, rfl, hlc, by simp, hcl, rfl, fun i hi => ?_⟩
                rw [rowCells_get hsz hAl hi]
                exact (h1 i hi).2.1.mono (Ext.push H1 _)
            · simp at h00
      | struct fs =>
        simp only [Bool.and_eq_true, List.all_eq_true] at hp
        obtain ⟨hcon, hall⟩ := hp
        obtain ⟨xs, n', rfl, hx, hcl, hxl, hf⟩ := DataW.trod_struct hu h
        simp only [Prod.mk.injEq] at hx
        obtain ⟨rfl, rfl⟩ := hx
        have hxi : ∀ i, i < fs.size → ∃ y, xs[i]? = some y := fun i hi => ⟨xs[i]'(by omega), by simp [show i < xs.length by omega]⟩
        let CS : Nat → List Value := fun i => match fs[i]? with | some f => (cs.drop f.offset).take (P.cellsOf f.type) | none => []
        obtain ⟨m1, H1, A, K, l1, h1⟩ : ∃ (m1 : AMap) (H1 : AHeap) (A : Nat → List Value) (K : Nat → Nat), Laid Fr wf w m H m1 H1 ∧
            ∀ i f, fs[i]? = some f → LRel m1 (A i) (CS i) ∧ Typed P H1 p f.type (A i) (K i) ∧ K i ≤ bulkW ((xs[i]?.map (·.1)).getD .nil) := by
          have key : ∀ N, N ≤ fs.size → ∃ (m1 : AMap) (H1 : AHeap) (A : Nat → List Value) (K : Nat → Nat), Laid Fr wf w m H m1 H1 ∧
              ∀ i f, i < N → fs[i]? = some f → LRel m1 (A i) (CS i) ∧ Typed P H1 p f.type (A i) (K i) ∧ K i ≤ bulkW ((xs[i]?.map (·.1)).getD .nil) := by
            intro N
            induction N with
            | zero => intro _; exact ⟨m, H, fun _ => [], fun _ => 0, ⟨r, .refl m, .refl H⟩, fun i f hi => absurd hi (Nat.not_lt_zero i)⟩
            | succ N ihN =>
              intro hN
              obtain ⟨m1, H1, A, K, l1, g1⟩ := ihN (by omega)
              have hfN : fs[N]? = some fs[N] := by simp [show N < fs.size by omega]
              obtain ⟨y, hy⟩ := hxi N (by omega)
              have htr := hf N _ hfN
              rw [hy] at htr
              obtain ⟨m2, H2, acs, k, l2, q1, q2, q3⟩ := ih fs[N].type n' _ y.1 y.2 (hall _ (by simp)) htr m1 H1 l1.1
              refine ⟨m2, H2, fun i => if i = N then acs else A i, fun i => if i = N then k else K i, l1.trans l2, fun i f hi hfi => ?_⟩
              by_cases hiN : i = N
              · subst hiN
                rw [hfN] at hfi; cases hfi
                simp only [if_true]
                refine ⟨?_, q2, by rw [hy]; simpa using q3⟩
                simp only [CS, hfN]; exact q1
              · simp only [if_neg hiN]
                obtain ⟨g2, g3, g4⟩ := g1 i f (by omega) hfi
                exact ⟨g2.mono l2.2.1, g3.mono l2.2.2, g4⟩
          obtain ⟨m1, H1, A, K, l1, g1⟩ := key fs.size (Nat.le_refl _)
          exact ⟨m1, H1, A, K, l1, fun i f hfi => g1 i f (Array.getElem?_eq_some_iff.1 hfi).1 hfi⟩
        -- the fields side by side
        have glue : ∀ (l : List Field) (i0 o : Nat), (∀ i f, l[i]? = some f → fs[i0 + i]? = some f) → contig P o l (P.cellsOf t) = true → o ≤ P.cellsOf t →
            ∃ acs, LRel m1 acs (cs.drop o) ∧ ∀ i f, l[i]? = some f → o ≤ f.offset ∧ (acs.drop (f.offset - o)).take (P.cellsOf f.type) = A (i0 + i) := by
          intro l
          induction l with
          | nil =>
            intro i0 o _ hc ho
            simp only [contig, beq_iff_eq] at hc
            exact ⟨[], by rw [List.drop_eq_nil_of_le (by omega)]; exact .nil, fun i f hi => by simp at hi⟩
          | cons f l ihl =>
            intro i0 o hsub hc ho
            simp only [contig, Bool.and_eq_true, beq_iff_eq] at hc
            obtain ⟨hfo, hc⟩ := hc
            have hf0 := hsub 0 f (by simp)
            obtain ⟨q1, q2, q3⟩ := h1 (i0 + 0) f hf0
            simp only [CS, hf0] at q1
            rw [Nat.add_zero] at q1 q2 q3
            have hcov : o + P.cellsOf f.type ≤ P.cellsOf t := by
              have : ∀ (l : List Field) (o : Nat), contig P o l (P.cellsOf t) = true → o ≤ P.cellsOf t := by
                intro l
                induction l with
                | nil => intro o hc; simp only [contig, beq_iff_eq] at hc; omega
                | cons g l ihg =>
                  intro o hc
                  simp only [contig, Bool.and_eq_true, beq_iff_eq] at hc
                  have := ihg _ hc.2
                  omega
              exact this l _ hc
            obtain ⟨acs, g1, g2⟩ := ihl (i0 + 1) (o + P.cellsOf f.type) (fun i f hi => by have := hsub (i + 1) f (by simpa using hi); rwa [show i0 + 1 + i = i0 + (i + 1) by omega]) hc hcov
            have hAl : (A i0).length = P.cellsOf f.type := by
              rw [q1.length, List.length_take, List.length_drop, hcl]; omega
            refine ⟨A i0 ++ acs, ?_, fun i f' hi => ?_⟩
            · have : cs.drop o = (cs.drop f.offset).take (P.cellsOf f.type) ++ cs.drop (o + P.cellsOf f.type) := by
                rw [hfo, ← List.drop_drop, List.take_append_drop]
              rw [this]
              exact q1.append g1
            · cases i with
              | zero =>
                simp only [List.getElem?_cons_zero, Option.some.injEq] at hi
                subst hi
                refine ⟨by omega, ?_⟩
                rw [hfo, Nat.sub_self, List.drop_zero, ← hAl, List.take_left']
                · simp
                · rfl
              | succ i =>
                simp only [List.getElem?_cons_succ] at hi
                obtain ⟨k1, k2⟩ := g2 i f' hi
                refine ⟨by omega, ?_⟩
                rw [show f'.offset - o = (A i0).length + (f'.offset - (o + P.cellsOf f.type)) by omega, List.drop_append]
                simp only [Nat.add_sub_cancel_left]
                rw [List.drop_eq_nil_of_le (by omega), List.nil_append, k2]
                congr 1; omega
        obtain ⟨acs, g1, g2⟩ := glue fs.toList 0 0 (fun i f hi => by simpa using hi) hcon (Nat.zero_le _)
        rw [List.drop_zero] at g1
        refine ⟨m1, H1, acs, ((List.range fs.size).map K).sum + 1, l1, g1, ?_, ?_⟩
        · unfold Typed
          rw [hu]
          refine ⟨by rw [g1.length, hcl], K, rfl, fun i f hf => ?_⟩
          have := (g2 i f (by simpa using hf)).2
          rw [Nat.sub_zero, Nat.zero_add] at this
          rw [this]
          exact (h1 i f hf).2.1
        · simp only [bulkW, bulkAll_sum, List.map_map]
          have hK : ∀ i, i < fs.size → K i ≤ bulkW ((xs[i]?.map (·.1)).getD .nil) := fun i hi => (h1 i fs[i] (by simp [hi])).2.2
          have := sum_le hK
          have e1 : (List.range fs.size).map (fun i => bulkW ((xs[i]?.map (·.1)).getD .nil)) = xs.map (bulkW ∘ (·.1)) := by
            refine List.ext_getElem? fun i => ?_
            rw [List.getElem?_map, List.getElem?_map]
            by_cases hi : i < fs.size
            · rw [List.getElem?_range hi]
              obtain ⟨y, hy⟩ := hxi i hi
              simp [hy]
            · rw [List.getElem?_eq_none (by simpa using hi), List.getElem?_eq_none (by omega)]
              rfl
          rw [e1] at this
          omega
      | _ => simp at hp

end

end Go.Eng

namespace Go.Eng
open Go

-- ---------------------------------------------------------------- a call that needs nothing but tables
theorem LRel.eq_of_free {m : AMap} : ∀ {l l' : List Value}, (l.all free) = true → LRel m l l' → l' = l
  | [], _, _, .nil => rfl
  | v :: vs, _, h, .cons h1 h2 => by
    simp only [List.all_cons, Bool.and_eq_true] at h
    rw [h1.eq_of_free h.1, LRel.eq_of_free h.2 h2]

theorem LRel.of_free {m : AMap} : ∀ {l : List Value}, (l.all free) = true → LRel m l l
  | [], _ => .nil
  | v :: vs, h => by
    simp only [List.all_cons, Bool.and_eq_true] at h
    exact .cons (.of_free h.1) (LRel.of_free h.2)

/-- A heap of tables: cells that bear no address, and may only be read. -/
def tables (H : AHeap) : Bool := H.toList.all fun o => match o with
  | .cells c .ro => c.all free
  | _ => false

/-- What a call on tables alone comes to, it comes to in any heap that begins with them; what it made is forgotten. -/
theorem call_frame {C : Ctx} {f : FuncId} {args : List Value} {H0 H1 H : AHeap} {v : Value} (h : CallSpec C f args H0 (.ret v H1)) (hargs : args.all free = true) (hv : free v = true)
    (ht : tables H0 = true) (hG : ∀ g b, lookupG C.G g = some b → b < H0.size) (he : Ext H0 H) : CallSpec C f args H (.ret v H) := by
  intro Fr wf m w args' r g ha
  obtain rfl := LRel.eq_of_free hargs ha
  have hsz : H0.size ≤ H.size := by
    rcases Nat.lt_or_ge H.size H0.size with h' | h'
    · have := he H.size H0[H.size] (by simp [h'])
      exact absurd (Array.getElem?_eq_some_iff.1 this).1 (Nat.lt_irrefl _)
    · exact h'
  let F : Fence := ⟨Fr.ro, fun k => k < w.heap.size⟩
  let m0 : AMap := m.extract 0 H0.size
  have hm0 : ∀ i, i < H0.size → m0[i]? = m[i]? := by
    intro i hi
    simp only [m0]
    rw [Array.getElem?_extract, if_pos (by rw [r.size]; omega), Nat.zero_add]
  have hback : ∀ i e, m0.has i e → i < H0.size ∧ m.has i e := by
    intro i e hi
    have hlt := hi.lt
    have : i < H0.size := by
      simp only [m0, Array.size_extract] at hlt
      omega
    refine ⟨this, ?_⟩
    unfold AMap.has at *
    rw [← hm0 i this]; exact hi
  have htab : ∀ (i : Nat) (o : AObj), H0[i]? = some o → ∃ c : List Value, o = AObj.cells c .ro ∧ c.all free = true := by
    intro i o ho
    unfold tables at ht
    rw [List.all_eq_true] at ht
    have := ht o (by
      have := Array.mem_of_getElem? ho
      simpa using this)
    split at this
    · exact ⟨_, rfl, this⟩
    · cases this
  have r0 : R F w m0 H0 w :=
    { size := by simp only [m0, Array.size_extract, r.size]; omega
      os := rfl, tape := rfl, output := rfl, grow := Nat.le_refl _
      lt := by
        rintro k (hk | hk)
        · exact Nat.lt_of_lt_of_le (r.lt k (.inl hk)) r.grow
        · exact hk
      keep := fun _ _ => rfl
      obj := by
        intro i o e ho hie
        obtain ⟨c, rfl, hc⟩ := htab i o ho
        obtain ⟨h1, h2, cs, el, fz, h3, h4, h5, h6⟩ := r.obj i _ e (he i _ ho) (hback i e hie).2
        refine ⟨h1, h2, cs, el, fz, h3, h4, h5, ?_⟩
        rw [LRel.eq_of_free hc h6]
        exact .of_free hc
      inj := by
        intro i j o o' e e' _ ho _ hl _ _ _
        obtain ⟨c, rfl, _⟩ := htab i o ho
        cases hl }
  have g0 : GRel m0 C.G := by
    intro gg b hb
    obtain ⟨e, h1, h2⟩ := g gg b hb
    refine ⟨e, ?_, h2⟩
    unfold AMap.has at *
    rw [hm0 b (hG gg b hb)]; exact h1
  obtain ⟨m', w', v', _, q2, q3, q4⟩ := h F w m0 w args' r0 g0 (.of_free hargs)
  obtain rfl := q3.eq_of_free hv
  refine ⟨m, w', v', .refl m, ?_, .of_free hv, q4⟩
  refine r.upd (AMap.le.refl m) r.size q2.os q2.tape q2.output q2.grow (fun k hk => q2.keep k (.inr (Nat.lt_of_lt_of_le (r.lt k hk) r.grow))) fun i o e ho hie => .inl ⟨ho, hie, fun hl => ?_⟩
  exact q2.keep _ (.inr ((r.obj i o e ho hie).lt hl))

-- ---------------------------------------------------------------- the arguments
/-- A value of its cells. -/
def ofCells (P : Program) (t : TypeId) (acs : List Value) : Value :=
  match P.underlying t with
  | some (.struct _) => .agg ⟨acs⟩
  | _ => acs.headD undef

def TypedAll (P : Program) (H : AHeap) (p : Nat) : List TypeId → List Value → Nat → Prop
  | [], [], k => k = 0
  | t :: ts, v :: vs, k => ∃ acs k1 k2, v = ofCells P t acs ∧ Typed P H p t acs k1 ∧ TypedAll P H p ts vs k2 ∧ k = k1 + k2
  | _, _, _ => False

theorem TypedAll.mono {P : Program} {H H' : AHeap} (h : Ext H H') {p : Nat} : ∀ {ts : List TypeId} {vs : List Value} {k : Nat}, TypedAll P H p ts vs k → TypedAll P H' p ts vs k
  | [], [], _, x => x
  | _ :: _, _ :: _, _, ⟨acs, k1, k2, h1, h2, h3, h4⟩ => ⟨acs, k1, k2, h1, h2.mono h, h3.mono h, h4⟩

theorem cells_of_ok {P : Program} {W : World} {base : Nat} {p : Nat} {t : TypeId} {v : Value} {m : AMap} {acs : List Value} (hp : plainT P p t = true) (hv : Value.okWide P W .any base t v)
    (h : LRel m acs v.cells.toList) : VRel m (ofCells P t acs) v := by
  cases p with
  | zero => simp [plainT] at hp
  | succ p =>
    unfold plainT at hp
    unfold ofCells
    cases hu : P.underlying t with
    | none => rw [hu] at hp; simp at hp
    | some u =>
      rw [hu] at hp
      unfold Value.okWide at hv
      rw [hu] at hv
      have one : ∀ x : Value, v = x → x.cells.toList = [x] → VRel m (acs.headD undef) v := by
        intro x hx hc
        subst hx
        rw [hc] at h
        cases h with
        | cons h1 h2 => exact h1
      cases u with
      | struct fs =>
        simp only at hv ⊢
        obtain ⟨cs, rfl, _⟩ := hv
        obtain ⟨cs⟩ := cs
        exact .agg (by simpa [Value.cells] using h)
      | bool =>
        simp only [Cell.okWide, hu, Cell.ok] at hv
        cases v <;> simp at hv
        exact one _ rfl rfl
      | int q =>
        simp only [Cell.okWide, hu, Cell.ok] at hv
        cases v <;> simp at hv
        exact one _ rfl rfl
      | string =>
        simp only [Cell.okWide, hu, Cell.ok] at hv
        cases v <;> simp at hv
        exact one _ rfl rfl
      | slice e =>
        simp only [Cell.okWide, hu, Cell.ok] at hv
        cases v <;> simp at hv
        exact one _ rfl rfl
      | _ => simp at hp

theorem lay_args {A : Type} {enc : TypeId × Value → A} {P : Program} {Fr : Fence} {wf w : World} {base : Nat} (hro : ∀ k, k < w.heap.size → Fr.ro k)
    (hdum : ∃ (b : Nat) (cs : Array Value) (el : TypeId) (fz : Nat × Nat), w.heap[b]? = some (.cells cs el fz)) (p : Nat) :
    ∀ (ts : List TypeId) (vs : List Value) (ds : List (DataW A)) (ps : List MemPlace), DataW.TrodAll enc P w 0 (fun _ => true) true ts vs ds ps → (ts.all (plainT P p)) = true →
    (∀ (j : Nat) t v, ts[j]? = some t → vs[j]? = some v → Value.okWide P w .any base t v) → ∀ m H, R Fr wf m H w →
    ∃ m' H' avs k, Laid Fr wf w m H m' H' ∧ LRel m' avs vs ∧ TypedAll P H' p ts avs k ∧ k ≤ bulkAll ds
  | [], [], [], ps, _, _, _, m, H, r => ⟨m, H, [], 0, ⟨r, .refl m, .refl H⟩, .nil, rfl, Nat.zero_le _⟩
  | t :: ts, v :: vs, d :: ds, ps, h, hp, hv, m, H, r => by
    obtain ⟨p1, q1, ⟨fuel, h1⟩, h2, rfl⟩ := h
    simp only [List.all_cons, Bool.and_eq_true] at hp
    obtain ⟨m1, H1, acs, k1, l1, g1, g2, g3⟩ := lay (P := P) (enc := enc) hro hdum p t fuel _ d p1 hp.1 h1 m H r
    obtain ⟨m2, H2, avs, k2, l2, g4, g5, g6⟩ := lay_args hro hdum p ts vs ds q1 h2 hp.2 (fun j t v ht hv' => hv (j + 1) t v (by simpa using ht) (by simpa using hv')) m1 H1 l1.1
    have hval := cells_of_ok hp.1 (hv 0 t v rfl rfl) g1
    exact ⟨m2, H2, ofCells P t acs :: avs, k1 + k2, l1.trans l2, .cons (hval.mono l2.2.1) g4, ⟨acs, k1, k2, rfl, g2.mono l2.2.2, g5, rfl⟩, by simp only [bulkAll]; omega⟩
  | [], _ :: _, _, _, h, _, _, _, _, _ => by simp [DataW.TrodAll] at h
  | [], [], _ :: _, _, h, _, _, _, _, _ => by simp [DataW.TrodAll] at h
  | _ :: _, [], _, _, h, _, _, _, _, _ => by simp [DataW.TrodAll] at h
  | _ :: _, _ :: _, [], _, h, _, _, _, _, _ => by simp [DataW.TrodAll] at h

/-- All memory that was there may be read, none of it written. -/
def old (W : World) : Fence := ⟨fun k => k < W.heap.size, fun _ => False⟩

theorem R.start (W : World) : R (old W) W #[] #[] W where
  size := rfl
  os := rfl
  tape := rfl
  output := rfl
  grow := Nat.le_refl _
  lt := by rintro k (h | h); exact h; exact h.elim
  keep := fun _ _ => rfl
  obj := fun i o e h => by simp at h
  inj := fun i j o o' e e' _ h => by simp at h

/-- THE CALL, from the interpreter's answer. -/
theorem top {C : Ctx} (hC : CtxOk C) {f : FuncId} {fn : Func} {c : Code} (hf : C.P.funcs[f]? = some fn) (hb : fn.body = some c) {W : World} {avs : List Value} {args : Array Value} {m : AMap} {H H' : AHeap}
    (r : R (old W) W m H W) (g : GRel m C.G) (ha : LRel m avs args.toList) (h : evw C (.call f avs H) = some (.ret (.bool true) H')) :
    Calls C.P f args W fun e W' => e = .returned (.bool true) ∧ RowKit.Below W.heap.size W W' := by
  obtain ⟨m', w', v', _, q2, q3, q4⟩ := (evw_ok hC).call _ _ _ _ h (old W) W m W args.toList r g ha
  cases q3
  have henter := run_callFunc_enter hC hf hb args W
  have hargs : (⟨args.toList⟩ : Array Value) = args := rfl
  rw [hargs] at q4
  rcases q4 with q4 | ⟨_, q5⟩
  · rw [henter] at q4
    cases q4
  · intro cs
    obtain ⟨fr, s1, s2, s3⟩ := q5 cs
    exact ⟨.returned (.bool true), w', fr, ⟨rfl, q2.os, q2.tape, q2.output, q2.grow, fun k hk => q2.keep k (.inl hk)⟩, s1, s2, s3⟩

theorem trodAll_stays {A : Type} {enc : TypeId × Value → A} {P : Program} {W W' : World} (hl : laidOutB P = true) (hb : RowKit.Below W.heap.size W W') {sp : Nat → Bool} :
    ∀ (ts : List TypeId) (vs : List Value) (ds : List (DataW A)) (ps : List MemPlace), (ts.all fun t => P.readableRec t && decide (t < P.types.size)) = true →
    DataW.TrodAll enc P W 0 (fun _ => true) true ts vs ds ps → (∀ x ∈ ps, x.block < W.heap.size) → (∀ x ∈ ps, sp x.block = true) → DataW.TrodAll enc P W' 0 sp true ts vs ds ps
  | [], [], [], ps, _, h, _, _ => h
  | t :: ts, v :: vs, d :: ds, ps, ht, h, hlt, hs => by
    obtain ⟨p, q, h1, h2, rfl⟩ := h
    simp only [List.all_cons, Bool.and_eq_true, decide_eq_true_eq] at ht
    refine ⟨p, q, ?_, ?_, rfl⟩
    · exact WideElems.Trod_stays hl ht.1.1 ht.1.2 h1 (fun x hx => hb.same (hlt x (by simp [hx]))) (fun x hx => hs x (by simp [hx]))
    · exact trodAll_stays hl hb ts vs ds q ht.2 h2 (fun x hx => hlt x (by simp [hx])) (fun x hx => hs x (by simp [hx]))
  | [], _ :: _, _, _, _, h, _, _ => by simp [DataW.TrodAll] at h
  | [], [], _ :: _, _, _, h, _, _ => by simp [DataW.TrodAll] at h
  | _ :: _, [], _, _, _, h, _, _ => by simp [DataW.TrodAll] at h
  | _ :: _, _ :: _, [], _, _, h, _, _ => by simp [DataW.TrodAll] at h

/-- WHAT THE STATEMENT ASKS OF THE END: true was answered, and all that was there reads as it did. -/
theorem post_true {A : Type} {enc : TypeId × Value → A} {P : Program} {f : Func} {s : ChangeSpec} {apart fresh handsOn again : Bool} {W W' : World} {args : Array Value} {ds gs : List (DataW A)} {before : List MemPlace} {tb : TypeId}
    (hl : laidOutB P = true) (hts : (f.params.toList.all fun t => P.readableRec t && decide (t < P.types.size)) = true) (hvars : s.vars = []) (hrt : f.resultTypes = #[tb]) (htb : P.underlying tb = some .bool)
    (hW : DataW.Whole enc P f.params.toList s.vars apart W args.toList ds gs before) (hfn : s.fn A (ds ++ gs) = { results := [.lit (.bool true)], args := ds }) (hb : RowKit.Below W.heap.size W W') :
    s.post enc P f apart fresh handsOn again W args (.bool true) W' := by
  have hW0 := hW
  have hlt := hW.lt
  obtain ⟨p, q, hA, hV, hps, hfz, hnd⟩ := hW0
  rw [hvars] at hV
  have hV' : gs = [] ∧ q = [] := by
    cases gs with
    | nil => exact ⟨rfl, by simpa [DataW.TrodVars] using hV⟩
    | cons => simp [DataW.TrodVars] at hV
  obtain ⟨rfl, rfl⟩ := hV'
  rw [List.append_nil] at hps
  subst hps
  have hold : ∀ x ∈ before, (fun b => decide (b < W.heap.size)) x.block = true := fun x hx => by simpa using hlt x hx
  have hres : ∀ (b : Nat) (sp : Nat → Bool) (hd : Bool), DataW.TrodAll enc P W' b sp hd f.resultTypes.toList ((Value.bool true).resultList f.resultTypes.size) [.lit (.bool true)] [] := by
    intro b sp hd
    rw [hrt]
    exact ⟨[], [], ⟨1, by simp [DataW.trod, Value.cells, htb]⟩, rfl, rfl⟩
  have hvar' : ∀ sp, DataW.TrodVars enc P W' sp s.vars (s.fn A (ds ++ [])).vars [] := by
    intro sp
    rw [hfn, hvars]
    rfl
  refine ⟨ds, [], before, [], before, [], hW, by rw [hfn]; exact hres _ _ _, by rw [hfn]; exact trodAll_stays hl hb _ _ _ _ hts hA hlt hold, hvar' _, hb.frame _, fun _ => ⟨?_, ?_⟩⟩
  · exact RowKit.ok_one hrt rfl (by simp [Value.okWide, htb, Cell.okWide, Cell.ok])
  · refine ⟨.lit (.bool true) :: ds, [], [] ++ before, ⟨[] ++ before, [], ?_, ?_, by simp, ?_, ?_⟩, fun x hx _ => by simpa using hx⟩
    · have h1 := trodAll_stays hl hb (sp := fun _ => true) _ _ _ _ hts hA hlt fun _ _ => rfl
      rw [hrt]
      exact ⟨[], before, ⟨1, by simp [DataW.trod, Value.cells, htb]⟩, h1, rfl⟩
    · rw [hvars]; rfl
    · intro b off hp
      rw [hb.frozen (hlt _ (by simpa using hp))]
      exact hfz b off (by simpa using hp)
    · intro ha
      simpa using hnd ha

end Go.Eng

namespace Go.Eng
open Go

/-- The bytes of a string or of a slice of them. -/
def bytesV (H : AHeap) : Value → Option (List UInt8)
  | .string s => some s.data.toList
  | .slice none _ _ => some []
  | .slice (some a) n _ => match H.cells? a n with | some cs => bytesOfCells cs | none => none
  | _ => none

def cmpI : List Value → AHeap → Option (Value × AHeap)
  | [a, b], H => match bytesV H a, bytesV H b with
    | some x, some y => some (goInt (Lib.compareBytes x y), H)
    | _, _ => none
  | _, _ => none

section
variable {Fr : Fence} {wf w : World} {m : AMap} {H : AHeap} {P : Program}

theorem run_loadBytes (a : Addr) : ∀ (l : List UInt8) (i : Nat) (acc : ByteArray), (∀ (k : Nat) (b : UInt8), l[k]? = some b → w.cell? (a.add (i + k)) = some (.int .u8 b.toNat)) →
    (Extern.Bytes.loadBytes (a.add i) l.length acc).run P w = .ok (l.foldl ByteArray.push acc) w
  | [], i, acc, h => rfl
  | b :: l, i, acc, h => by
    have h0 := h 0 b rfl
    rw [Nat.add_zero] at h0
    simp only [List.length_cons, Extern.Bytes.loadBytes, Sem.run_bind, run_load, h0, Result.andThen_ok]
    rw [Deep.add_add]
    have hb : (b.toNat : Int).toNat.toUInt8 = b := by simp
    rw [show ((b.toNat : Int)).toNat.toUInt8 = b from hb]
    exact run_loadBytes a l (i + 1) (acc.push b) fun k x hk => by
      have := h (k + 1) x (by simpa using hk)
      rwa [show i + 1 + k = i + (k + 1) by omega]

theorem foldl_push_mk (l : List UInt8) (acc : ByteArray) : l.foldl ByteArray.push acc = ⟨⟨acc.data.toList ++ l⟩⟩ := by
  induction l generalizing acc with
  | nil => simp
  | cons b l ih =>
    simp only [List.foldl_cons]
    rw [ih]
    simp [ByteArray.push]

theorem bytesOfCells_inv : ∀ {cs : List Value} {l : List UInt8}, bytesOfCells cs = some l → cs.length = l.length ∧ ∀ (k : Nat) (b : UInt8), l[k]? = some b → ∃ z : Int, cs[k]? = some (Value.int .u8 z) ∧ UInt8.ofNat z.toNat = b
  | [], l, h => by simp [bytesOfCells] at h; subst h; simp
  | v :: cs, l, h => by
    unfold bytesOfCells at h
    split at h
    · rename_i heq; cases heq
    · rename_i n r heq
      cases heq
      split at h
      · rename_i l' hl
        simp only [Option.some.injEq] at h
        subst h
        obtain ⟨h1, h2⟩ := bytesOfCells_inv hl
        refine ⟨by simp [h1], fun k b hk => ?_⟩
        cases k with
        | zero => simp at hk; exact ⟨n, by simp, hk⟩
        | succ k => simpa using h2 k b (by simpa using hk)
      · simp at h
    · simp at h

theorem run_loadBytes' (a : Addr) : ∀ (l : List UInt8) (i : Nat) (acc : ByteArray), (∀ (k : Nat) (b : UInt8), l[k]? = some b → ∃ z : Int, w.cell? (a.add (i + k)) = some (.int .u8 z) ∧ UInt8.ofNat z.toNat = b) →
    (Extern.Bytes.loadBytes (a.add i) l.length acc).run P w = .ok (l.foldl ByteArray.push acc) w
  | [], i, acc, h => rfl
  | b :: l, i, acc, h => by
    obtain ⟨z, h0, hz⟩ := h 0 b rfl
    rw [Nat.add_zero] at h0
    simp only [List.length_cons, Extern.Bytes.loadBytes, Sem.run_bind, run_load, h0, Result.andThen_ok]
    rw [Deep.add_add]
    rw [show z.toNat.toUInt8 = b from hz]
    exact run_loadBytes' a l (i + 1) (acc.push b) fun k x hk => by
      have := h (k + 1) x (by simpa using hk)
      rwa [show i + 1 + k = i + (k + 1) by omega]

theorem bytesV_run (r : R Fr wf m H w) {v v' : Value} (hv : VRel m v v') {l : List UInt8} (h : bytesV H v = some l) : (Extern.Bytes.bytesOf v').run P w = .ok ⟨⟨l⟩⟩ w := by
  cases hv with
  | string s =>
    simp only [bytesV, Option.some.injEq] at h
    subst h
    rfl
  | slice0 =>
    simp only [bytesV, Option.some.injEq] at h
    subst h
    rfl
  | @sliceE b o a' e he =>
    simp only [bytesV] at h
    split at h
    · rename_i cs hcs
      have hl := (r.cells he hcs).1
      obtain rfl : cs = [] := List.eq_nil_of_length_eq_zero hl
      simp [bytesOfCells] at h
      subst h
      rfl
    · simp at h
  | @slice b o o' n c c' e he h1 h2 h3 h4 =>
    simp only [bytesV] at h
    split at h
    · rename_i cs hcs
      obtain ⟨hl, vs', g1, g2⟩ := r.cells he hcs
      obtain ⟨k1, k2⟩ := bytesOfCells_inv h
      have hn : n = l.length := by omega
      subst hn
      simp only [Extern.Bytes.bytesOf]
      by_cases h0 : l.length = 0
      · have : l = [] := List.eq_nil_of_length_eq_zero h0
        subst this
        rfl
      · have ho : o' = o + e.sh := h3.resolve_right (by omega)
        subst ho
        have := run_loadBytes' (P := P) (w := w) ⟨e.blk, o + e.sh, none⟩ l 0 .empty fun k b hk => by
          obtain ⟨z, q1, q2⟩ := k2 k b hk
          obtain ⟨z', q3, q4⟩ := g1.get q1
          cases q4
          rw [Nat.zero_add]
          exact ⟨z, g2 k _ q3, q2⟩
        rw [show (⟨e.blk, o + e.sh, none⟩ : Addr).add 0 = ⟨e.blk, o + e.sh, none⟩ from rfl] at this
        rw [this, foldl_push_mk]
        simp
    · simp at h
  | _ => simp [bytesV] at h

theorem cmpI_spec {C : Ctx} {f : FuncId} {fn : Func} (hf : C.P.funcs[f]? = some fn) (hname : (fn.name == "runtime.NumGoroutine") = false) (hb : fn.body.isNone = true) (hn : Extern.findNext fn = none)
    (he : Extern.find fn = some Extern.BytealgCompare.compare) {args : List Value} {H : AHeap} {v : Value} {H' : AHeap} (h : cmpI args H = some (v, H')) : CallSpec C f args H (.ret v H') := by
  unfold cmpI at h
  split at h
  · rename_i a b H
    split at h
    · rename_i x y hx hy
      simp only [Option.some.injEq, Prod.mk.injEq] at h
      obtain ⟨rfl, rfl⟩ := h
      intro Fr wf m w args' r g ha
      cases ha with
      | cons h1 ha => cases ha with
        | cons h2 ha => cases ha with
          | nil =>
            rename_i a' b'
            refine ⟨m, w, _, .refl m, r, .int _ _, .inl ?_⟩
            rw [run_callFunc_extern hf hname hb hn he]
            have : (Extern.BytealgCompare.compare (⟨[a', b']⟩ : Array Value)).run C.P w = .ok (goInt (Lib.compareBytes x y)) w := by
              change Sem.run C.P (do pure (goInt (Extern.BytealgCompare.cmp (← Extern.Bytes.bytesOf a') (← Extern.Bytes.bytesOf b')))) w = _
              simp only [Sem.run_bind, bytesV_run r h1 hx, bytesV_run r h2 hy, Sem.run_pure, Result.andThen_ok]
              rw [Lib.cmp_eq]
            rw [this]
            rfl
    · simp at h
  · simp at h
end

end Go.Eng

namespace Go.Eng
open Go

def aopsL (C : Ctx) (rec : Req → Option Rep) (ops : Array Oper) : List Oper → ASt → Option (AExit × ASt)
  | [], s => some (.normal, s)
  | o :: r, s => if awanted ops o s.tmps then
      match aop1 C rec none o s with
      | some (.normal, s') => aopsL C rec ops r s'
      | x => x
    else aopsL C rec ops r (s.put o.dst undef s.H)

theorem aops_L {C : Ctx} {rec : Req → Option Rep} {ops : Array Oper} : ∀ (l : List Oper) (k : Nat), (∀ j, l[j]? = ops[k + j]?) → k + l.length = ops.size → ∀ s, aops C rec ops (List.range' k l.length) s = aopsL C rec ops l s
  | [], k, _, _, s => rfl
  | o :: r, k, h, hl, s => by
    have h0 : ops[k]? = some o := by simpa using (h 0).symm
    have hr := aops_L (C := C) (rec := rec) r (k + 1) (fun j => by have := h (j + 1); rw [show k + 1 + j = k + (j + 1) by omega]; simpa using this) (by simp at hl; omega)
    simp only [List.length_cons, List.range'_succ, aops, aopsL, astep, h0]
    cases hw : awanted ops o s.tmps
    · simp only [Bool.false_eq_true, if_false]
      exact hr _
    · simp only [if_true]
      cases ha : aop1 C rec none o s with
      | none => rfl
      | some p =>
        obtain ⟨e, s'⟩ := p
        cases e with
        | normal => exact hr _
        | jump c => rfl
        | panic v => rfl

theorem aregion_text {C : Ctx} {rec : Req → Option Rep} {ops : Array Oper} {s : ASt} : aregion C rec ops false s = aopsL C rec ops ops.toList s := by
  unfold aregion
  simp only [Bool.false_eq_true, if_false]
  rw [List.range_eq_range', ← aops_L ops.toList 0 (fun j => by simp) (by simp)]
  simp

/-- Might it look at memory? -/
def looks (o : Oper) : Bool :=
  match o.op with
  | .load _ _ => true
  | .convert _ _ _ => true
  | .slice _ _ _ _ _ => true
  | _ => false

theorem looks_of {ρ : Operand → Option Value} {o : Oper} (h : looks o = false) : areads ρ o = none := by
  obtain ⟨dst, op, type, pos, after, guard⟩ := o
  cases op <;> simp_all [looks, areads]

/-- A drawn region in which nothing is made, and what looks at memory stands ahead of each call and store, or behind. -/
def drawLight (P : Program) (ops : Array Oper) : Bool :=
  let b := Region.before ops
  drawStat P ops && (List.range ops.size).all fun i => match ops[i]? with
    | none => false
    | some o => !isAlloc P o && (heavy o || !looks o || (List.range ops.size).all fun h => match ops[h]? with
      | none => false
      | some q => !heavy q || ordered b i h || ordered b h i)

theorem rank_light {P : Program} {ops : Array Oper} (h : ∀ (i : Nat) (o : Oper), ops[i]? = some o → isAlloc P o = false) : ∀ i, rank P ops i = 0
  | 0 => rfl
  | i + 1 => by
    have h1 := rank_light h i
    have h2 : allocAt P ops i = false := by
      unfold allocAt
      split
      · rename_i o ho; exact h i o ho
      · rfl
    simp [rank, h1, h2]

theorem atrace_of_aops {C : Ctx} {rec : Req → Option Rep} {ops : Array Oper} {base : Nat} (hl : ∀ (i : Nat) (o : Oper), ops[i]? = some o → isAlloc C.P o = false) :
    ∀ (l : List Nat) (s s' : ASt), aops C rec ops l s = some (.normal, s') → ∃ tr, atrace C rec ops base l s = some tr ∧ tr.getLast? = some s' ∧ tr.length = l.length + 1
  | [], s, s', h => by
    simp only [aops, Option.some.injEq, Prod.mk.injEq, true_and] at h
    subst h
    exact ⟨[s], rfl, rfl, rfl⟩
  | i :: r, s, s', h => by
    simp only [aops] at h
    have key : astep C rec ops (some (base + rank C.P ops i)) i s = astep C rec ops none i s := by
      unfold astep
      cases ho : ops[i]? with
      | none => rfl
      | some o =>
        simp only [aop1, aout, hl i o ho, Bool.false_eq_true, if_false]
    cases hs : astep C rec ops none i s with
    | none => rw [hs] at h; simp at h
    | some p =>
      obtain ⟨e, s1⟩ := p
      rw [hs] at h
      cases e with
      | normal =>
        obtain ⟨tr, h1, h2, h3⟩ := atrace_of_aops (base := base) hl r s1 s' h
        refine ⟨s :: tr, ?_, ?_, by simp [h3]⟩
        · simp only [atrace, key, hs, h1]
        · cases tr with
          | nil => simp at h3
          | cons x t => rw [List.getLast?_cons_cons]; exact h2
      | jump c => simp at h
      | panic v => simp at h

theorem aregion_light {C : Ctx} {rec : Req → Option Rep} {ops : Array Oper} (hd : drawLight C.P ops = true) {s s' : ASt} (h : aopsL C rec ops ops.toList s = some (.normal, s')) :
    aregion C rec ops true s = some (.normal, s') := by
  unfold drawLight at hd
  simp only [Bool.and_eq_true, List.all_eq_true, List.mem_range] at hd
  obtain ⟨h1, h2⟩ := hd
  have h3 : ∀ (i : Nat) (o : Oper), ops[i]? = some o → _ := fun i o ho => by
    have := h2 i (Array.getElem?_eq_some_iff.1 ho).1
    rw [ho] at this
    simp only [Bool.and_eq_true, Bool.not_eq_true', Bool.or_eq_true, List.all_eq_true, List.mem_range] at this
    exact this
  have hl : ∀ (i : Nat) (o : Oper), ops[i]? = some o → isAlloc C.P o = false := fun i o ho => (h3 i o ho).1
  have hr := rank_light hl
  rw [← aops_L ops.toList 0 (fun j => by simp) (by simp)] at h
  unfold aregion
  simp only [if_true, if_pos h1, hr]
  have hH : ({ s with H := holes s.H 0 } : ASt) = s := by
    have : holes s.H 0 = s.H := by simp [holes]
    rw [this]
  rw [hH]
  rw [show ops.toList.length = ops.size by simp] at h
  obtain ⟨tr, t1, t2, t3⟩ := atrace_of_aops (base := s.H.size) hl _ _ _ h
  rw [List.range_eq_range', t1]
  have hdyn : drawDyn C ops s.H.size tr = true := by
    unfold drawDyn
    simp only [List.all_eq_true, List.mem_range]
    intro i hi
    have ho : ops[i]? = some ops[i] := by simp [hi]
    have ht : ∀ j, j ≤ ops.size → ∃ x, tr[j]? = some x := fun j hj => ⟨tr[j]'(by simp at t3; omega), by simp at t3; simp [show j < tr.length by omega]⟩
    obtain ⟨x, hx⟩ := ht i (by omega)
    rw [ho, hx]
    simp only [hl i _ ho, Bool.false_eq_true, if_false]
    split
    · rfl
    · rename_i hnh
      split
      · rfl
      · rename_i blk full hrd
        simp only [hr, Nat.add_zero, Bool.and_eq_true, Bool.or_eq_true, decide_eq_true_eq, List.all_eq_true, List.mem_range]
        refine ⟨by omega, fun h hlt => ?_⟩
        have hoh : ops[h]? = some ops[h] := by simp [hlt]
        obtain ⟨y, hy⟩ := ht h (by omega)
        obtain ⟨z, hz⟩ := ht (h + 1) (by omega)
        rw [hoh, hy, hz]
        have hc := (h3 i _ ho).2
        rcases hc with (hc | hc) | hc
        · simp [hc] at hnh
        · rw [looks_of hc] at hrd; cases hrd
        · have := hc h hlt
          rw [hoh] at this
          simp only [Bool.or_eq_true, Bool.not_eq_true'] at this
          rcases this with (h5 | h5) | h5 <;> simp [h5]
  simp only [hdyn, if_true, t2, Option.map_some]

/-- The code comes to a state of which Q holds. -/
def Wc (C : Ctx) (fn : FuncId) (rd : Option Nat) (c : Code) (s : ASt) (Q : AExit → ASt → Prop) : Prop := ∃ e s', acode C (evw C) fn rd c s = some (e, s') ∧ Q e s'

section
variable {C : Ctx} {fn : FuncId} {rd : Option Nat} {s : ASt} {Q : AExit → ASt → Prop}

theorem Wc.seq {a b : Code} (h : Wc C fn rd a s (fun e s' => match e with | .normal => Wc C fn rd b s' Q | e => Q e s')) : Wc C fn rd (.seq a b) s Q := by
  obtain ⟨e, s', h1, h2⟩ := h
  cases e with
  | normal =>
    obtain ⟨e2, s2, h3, h4⟩ := h2
    exact ⟨e2, s2, by simp only [acode, h1]; exact h3, h4⟩
  | jump c => exact ⟨.jump c, s', by simp only [acode, h1], h2⟩
  | panic v => exact ⟨.panic v, s', by simp only [acode, h1], h2⟩

theorem Wc.region {id : Nat} {ops : Array Oper} {s' : ASt} (h : aopsL C (evw C) ops ops.toList s = some (.normal, s')) (k : Q .normal s') : Wc C fn rd (.region id ops false) s Q :=
  ⟨.normal, s', by simp only [acode]; rw [aregion_text]; exact h, k⟩

theorem Wc.draw {id : Nat} {ops : Array Oper} (hd : drawLight C.P ops = true) {s' : ASt} (h : aopsL C (evw C) ops ops.toList s = some (.normal, s')) (k : Q .normal s') : Wc C fn rd (.region id ops true) s Q :=
  ⟨.normal, s', by simp only [acode]; exact aregion_light hd h, k⟩

theorem Wc.cond {c : Operand} {a b : Code} {t : Bool} (hc : aeval C.G s.tmps c = some (.bool t)) (h : Wc C fn rd (if t then a else b) s Q) : Wc C fn rd (.cond c a b) s Q := by
  obtain ⟨e, s', h1, h2⟩ := h
  refine ⟨e, s', ?_, h2⟩
  cases t <;> simp only [acode, hc] <;> exact h1

theorem Wc.skip (h : Q .normal s) : Wc C fn rd .skip s Q := ⟨_, _, rfl, h⟩
theorem Wc.exit {id : Nat} (h : Q (.jump (.exit id)) s) : Wc C fn rd (.exit id) s Q := ⟨_, _, rfl, h⟩
theorem Wc.ret (h : Q (.jump .ret) s) : Wc C fn rd .ret s Q := ⟨_, _, rfl, h⟩

theorem Wc.block {id : Nat} {body : Code} (h : Wc C fn rd body s (fun e s' => match e with | .jump (.exit i) => if i = id then Q .normal s' else Q (.jump (.exit i)) s' | e => Q e s')) : Wc C fn rd (.block id body) s Q := by
  obtain ⟨e, s', h1, h2⟩ := h
  simp only [Wc, acode, h1]
  cases e with
  | normal => exact ⟨_, _, rfl, h2⟩
  | panic v => exact ⟨_, _, rfl, h2⟩
  | jump c =>
    cases c with
    | exit i =>
      simp only at h2 ⊢
      split at h2
      · rename_i hi; rw [if_pos hi]; exact ⟨_, _, rfl, h2⟩
      · rename_i hi; rw [if_neg hi]; exact ⟨_, _, rfl, h2⟩
    | _ => exact ⟨_, _, rfl, h2⟩

/-- A loop: what holds at its head (I, told by a measure) leads to the head again with less, or out. -/
theorem Wc.loop {body : Code} (I : Nat → ASt → Prop) (n : Nat) (h0 : I n s)
    (h : ∀ n s, I n s → Wc C fn rd body s (fun e s' => match e with | .normal => ∃ k, k < n ∧ I k s' | e => Q e s')) : Wc C fn rd (.loop body) s Q := by
  have main : ∀ n s, I n s → ∃ e s', evw C (.loop fn rd body s) = some (.code e s') ∧ Q e s' := by
    intro n
    induction n using Nat.strongRecOn with
    | ind n ih =>
      intro s hs
      obtain ⟨e, s', h1, h2⟩ := h n s hs
      cases e with
      | normal =>
        obtain ⟨k, hk, hk2⟩ := h2
        obtain ⟨e, s2, h3, h4⟩ := ih k hk s' hk2
        exact ⟨e, s2, evw_step (by simp only [step1, h1, h3]), h4⟩
      | jump c => exact ⟨_, s', evw_step (by simp only [step1, h1]), h2⟩
      | panic v => exact ⟨_, s', evw_step (by simp only [step1, h1]), h2⟩
  obtain ⟨e, s', h1, h2⟩ := h n s h0
  cases e with
  | normal =>
    obtain ⟨k, _, hk2⟩ := h2
    obtain ⟨e, s2, h3, h4⟩ := main k s' hk2
    exact ⟨e, s2, by simp only [acode, h1, h3], h4⟩
  | jump c => exact ⟨_, s', by simp only [acode, h1], h2⟩
  | panic v => exact ⟨_, s', by simp only [acode, h1], h2⟩

theorem Wc.mono {c : Code} {Q' : AExit → ASt → Prop} (h : Wc C fn rd c s Q) (k : ∀ e s', Q e s' → Q' e s') : Wc C fn rd c s Q' :=
  let ⟨e, s', h1, h2⟩ := h; ⟨e, s', h1, k e s' h2⟩

/-- A call, from its code. -/
theorem call_of {f : FuncId} {args : List Value} {H : AHeap} {F : Func} {c : Code} (hI : C.I f = none) (hf : C.P.funcs[f]? = some F) (hb : F.body = some c) {R : Rep → Prop}
    (h : Wc C f none c { tmps := args ++ List.replicate (F.ntmps - args.length) undef, H, dfs := [] } (fun e s' => match e with
      | .normal => ∃ r, leave C F s' = some r ∧ R r
      | .jump .ret => ∃ r, leave C F s' = some r ∧ R r
      | .panic v => ∃ H', takeAll s'.dfs s'.H = some H' ∧ R (.panicked v H')
      | _ => False)) : ∃ r, evw C (.call f args H) = some r ∧ R r := by
  obtain ⟨e, s', h1, h2⟩ := h
  cases e with
  | normal =>
    obtain ⟨r, h3, h4⟩ := h2
    exact ⟨r, evw_step (by simp only [step1, hI, hf, hb, h1, h3]), h4⟩
  | panic v =>
    obtain ⟨H', h3, h4⟩ := h2
    exact ⟨_, evw_step (by simp only [step1, hI, hf, hb, h1, h3]), h4⟩
  | jump j =>
    cases j with
    | ret =>
      obtain ⟨r, h3, h4⟩ := h2
      exact ⟨r, evw_step (by simp only [step1, hI, hf, hb, h1, h3]), h4⟩
    | _ => exact h2.elim

end
end Go.Eng

namespace Go.Eng
open Go

/-- v is a slice that holds xs, in a block that 'at_' allows, whose state 'st' allows. -/
def RdS (H : AHeap) (st : St → Prop) (at_ : Nat → Prop) (v : Value) (xs : List Value) : Prop :=
  (v = .slice none 0 0 ∧ xs = []) ∨
  ∃ (b o c : Nat) (cs : List Value) (s : St), v = .slice (some ⟨b, o, none⟩) xs.length c ∧ xs.length ≤ c ∧ at_ b ∧ H[b]? = some (.cells cs s) ∧ st s ∧
    o + xs.length ≤ cs.length ∧ (cs.drop o).take xs.length = xs

def own1 (s : St) : Prop := s = .rw 1
def any1 (s : St) : Prop := s = .ro ∨ s = .rw 1

theorem own1.any {s : St} (h : own1 s) : any1 s := .inr h
theorem any1.alive {s : St} (h : any1 s) : s ≠ .dead := by rcases h with rfl | rfl <;> simp

section
variable {H H' : AHeap} {st st' : St → Prop} {at_ at' : Nat → Prop} {v : Value} {xs ys : List Value}

theorem RdS.nil : RdS H st at_ (.slice none 0 0) [] := .inl ⟨rfl, rfl⟩

theorem RdS.mono (h : RdS H st at_ v xs) (h1 : ∀ s, st s → st' s) (h2 : ∀ b, b < H.size → at_ b → at' b) : RdS H st' at' v xs := by
  rcases h with h | ⟨b, o, c, cs, s, e1, e2, e3, e4, e5, e6, e7⟩
  · exact .inl h
  · exact .inr ⟨b, o, c, cs, s, e1, e2, h2 b (Array.getElem?_eq_some_iff.1 e4).1 e3, e4, h1 s e5, e6, e7⟩

theorem RdS.frame (h : RdS H st at_ v xs) (hk : ∀ b, b < H.size → at_ b → H'[b]? = H[b]?) : RdS H' st at_ v xs := by
  rcases h with h | ⟨b, o, c, cs, s, e1, e2, e3, e4, e5, e6, e7⟩
  · exact .inl h
  · exact .inr ⟨b, o, c, cs, s, e1, e2, e3, (hk b (Array.getElem?_eq_some_iff.1 e4).1 e3).trans e4, e5, e6, e7⟩

theorem RdS.len (h : RdS H st at_ v xs) : lenV v = some xs.length := by
  rcases h with ⟨rfl, rfl⟩ | ⟨b, o, c, cs, s, rfl, _⟩ <;> rfl

theorem RdS.shape (h : RdS H st at_ v xs) : ∃ a c, v = .slice a xs.length c := by
  rcases h with ⟨rfl, rfl⟩ | ⟨b, o, c, cs, s, rfl, _⟩ <;> exact ⟨_, _, rfl⟩

theorem cells?_eq {b o n : Nat} {cs : List Value} {s : St} (h : H[b]? = some (.cells cs s)) (hs : s ≠ .dead) (hl : o + n ≤ cs.length) : H.cells? ⟨b, o, none⟩ n = some ((cs.drop o).take n) := by
  unfold AHeap.cells?
  simp only [h]
  cases s with
  | dead => exact absurd rfl hs
  | ro => simp only [if_pos hl]
  | rw z => simp only [if_pos hl]

theorem cell?_eq {b o : Nat} {cs : List Value} {s : St} (h : H[b]? = some (.cells cs s)) (hs : s ≠ .dead) : H.cell? ⟨b, o, none⟩ = cs[o]? := by
  unfold AHeap.cell?
  rw [h]
  cases s with
  | dead => exact absurd rfl hs
  | ro => rfl
  | rw z => rfl

theorem RdS.first (h : RdS H st at_ v xs) (hst : ∀ s, st s → s ≠ .dead) : firstOf H 1 xs.length v = some xs := by
  rcases h with ⟨rfl, rfl⟩ | ⟨b, o, c, cs, s, rfl, e2, e3, e4, e5, e6, e7⟩
  · rfl
  · simp only [firstOf, Nat.mul_one]
    split
    · rename_i h0; rw [List.eq_nil_of_length_eq_zero h0]
    · rw [cells?_eq e4 (hst s e5) e6, e7]

/-- An element's address, and what lies there. -/
theorem RdS.at (h : RdS H st at_ v xs) (hst : ∀ s, st s → s ≠ .dead) {i : Nat} {x : Value} (hx : xs[i]? = some x) :
    ∃ b o c, v = .slice (some ⟨b, o, none⟩) xs.length c ∧ H.cell? ⟨b, o + i, none⟩ = some x := by
  rcases h with ⟨rfl, rfl⟩ | ⟨b, o, c, cs, s, rfl, e2, e3, e4, e5, e6, e7⟩
  · simp at hx
  · refine ⟨b, o, c, rfl, ?_⟩
    rw [cell?_eq e4 (hst s e5)]
    have hi : i < xs.length := (List.getElem?_eq_some_iff.1 hx).1
    rw [← e7, List.getElem?_take, if_pos hi, List.getElem?_drop] at hx
    exact hx

/-- Of what an append may turn: the slice's own block alone. -/
def Mine (v : Value) (b : Nat) : Prop := ∃ a n c, v = .slice (some a) n c ∧ a.block = b

theorem deadAt_get {b k : Nat} (h : k ≠ b) : (deadAt H b)[k]? = H[k]? := by
  unfold deadAt
  split
  · rw [Array.getElem?_setIfInBounds, if_neg (Ne.symm h)]
  · rfl

/-- APPEND, of one-cell elements. -/
theorem append_spec {P : Program} {t e : TypeId} {by_ : Nat} {z s x : Value} (he : elemS P t = some e) (hsz : sizeT P e = some 1) (hby : bytesT P e = some by_) (hz : zeroT P e = some z) (hzl : (vcells z).length = 1)
    (hb0 : by_ ≠ 0) (hs : RdS H own1 at_ s xs) (hx : RdS H st at' x ys) (hst : ∀ s, st s → s ≠ .dead) (hcx : xs.all cellOk = true) (hcy : ys.all cellOk = true) (hroom : (xs.length + ys.length) * by_ ≤ room) :
    ∃ r H', aappend P H t s x = some (r, H') ∧ RdS H' own1 (fun b => (at_ b ∧ ys = []) ∨ b = H.size) r (xs ++ ys) ∧ H.size ≤ H'.size ∧ (∀ b, b < H.size → ¬ Mine s b → H'[b]? = H[b]?) ∧
      (ys = [] → r = s ∧ H' = H) ∧ (ys ≠ [] → r = .slice (some (at0 H.size)) (xs.length + ys.length) (xs.length + ys.length) ∧ H'.size = H.size + 1) := by
  have hlx := hx.len
  have hsh := hs
  obtain ⟨a0, c0, rfl⟩ := hs.shape
  unfold aappend
  simp only [he, hlx]
  by_cases h0 : ys.length = 0
  · obtain rfl := List.eq_nil_of_length_eq_zero h0
    simp only [List.length_nil, if_true, hsz, Option.map_some]
    refine ⟨_, H, rfl, ?_, Nat.le_refl _, fun _ _ _ => rfl, fun _ => ⟨rfl, rfl⟩, fun h => absurd rfl h⟩
    rw [List.append_nil]
    exact hsh.mono (fun _ h => h) fun b _ h => .inl (by simpa using h)
  · have hne : ys ≠ [] := by rintro rfl; exact h0 rfl
    simp only [if_neg h0, hsz, hby, hz, hzl]
    rw [if_neg (by simp [hb0]), if_neg (by omega)]
    rw [hsh.first (fun s h => by rw [show s = .rw 1 from h]; simp), hx.first hst]
    simp only [hcx, hcy, Bool.and_self, Bool.true_eq_false, if_false, Nat.mul_one]
    rw [if_neg (by simp)]
    have done : ∀ H2 : AHeap, H2.size = H.size → (∀ b, b < H.size → ¬ Mine (.slice a0 xs.length c0) b → H2[b]? = H[b]?) →
        ∃ r H', some (Value.slice (some (at0 H.size)) (xs.length + ys.length) (xs.length + ys.length), H2.push (.cells (xs ++ ys) (.rw 1))) = some (r, H') ∧
          RdS H' own1 (fun b => (at_ b ∧ ys = []) ∨ b = H.size) r (xs ++ ys) ∧ H.size ≤ H'.size ∧ (∀ b, b < H.size → ¬ Mine (.slice a0 xs.length c0) b → H'[b]? = H[b]?) ∧
          (ys = [] → r = .slice a0 xs.length c0 ∧ H' = H) ∧ (ys ≠ [] → r = .slice (some (at0 H.size)) (xs.length + ys.length) (xs.length + ys.length) ∧ H'.size = H.size + 1) := by
      intro H2 h1 h2
      refine ⟨_, _, rfl, .inr ⟨H.size, 0, xs.length + ys.length, xs ++ ys, .rw 1, by simp [at0], by simp, .inr rfl, by rw [Array.getElem?_push, if_pos h1.symm], rfl, by simp, by rw [List.drop_zero, List.take_length]⟩, by simp [h1],
        fun b hb hm => ?_, fun h => absurd h hne, fun _ => ⟨rfl, by simp [h1]⟩⟩
      rw [Array.getElem?_push, if_neg (by omega)]
      exact h2 b hb hm
    rcases hsh with ⟨h1, h2⟩ | ⟨b, o, c, cs, s, e1, e2, e3, e4, e5, e6, e7⟩
    · simp only [Value.slice.injEq] at h1
      obtain ⟨rfl, _, _⟩ := h1
      exact done H rfl fun _ _ _ => rfl
    · simp only [Value.slice.injEq, true_and] at e1
      obtain ⟨rfl, rfl⟩ := e1
      obtain rfl : s = .rw 1 := e5
      simp only [e4, if_true]
      exact done (deadAt H b) (deadAt_size _ _) fun k hk hm => deadAt_get (by rintro rfl; exact hm ⟨_, _, _, rfl, rfl⟩)
end

/-- The cells of bytes. -/
def bcells (bs : List UInt8) : List Value := bs.map fun b => .int .u8 b.toNat

theorem bcells_length (bs : List UInt8) : (bcells bs).length = bs.length := by simp [bcells]
theorem bcells_ok (bs : List UInt8) : (bcells bs).all cellOk = true := by simp [bcells, cellOk]
theorem bcells_append (a b : List UInt8) : bcells (a ++ b) = bcells a ++ bcells b := by simp [bcells]

theorem bytesOf_bcells : ∀ bs : List UInt8, bytesOfCells (bcells bs) = some bs
  | [] => rfl
  | b :: bs => by
    have := bytesOf_bcells bs
    simp only [bcells, List.map_cons] at this ⊢
    simp only [bytesOfCells, this]
    simp

/-- v holds these bytes. -/
abbrev RdB (H : AHeap) (st : St → Prop) (at_ : Nat → Prop) (v : Value) (bs : List UInt8) : Prop := RdS H st at_ v (bcells bs)

theorem RdB.bytes {H : AHeap} {st : St → Prop} {at_ : Nat → Prop} {v : Value} {bs : List UInt8} (h : RdB H st at_ v bs) (hst : ∀ s, st s → s ≠ .dead) : bytesV H v = some bs := by
  have hb := bytesOf_bcells bs
  rcases h with ⟨rfl, h⟩ | ⟨b, o, c, cs, s, rfl, e2, e3, e4, e5, e6, e7⟩
  · rw [h] at hb
    exact hb
  · simp only [bytesV]
    rw [cells?_eq e4 (hst s e5) e6, e7]
    exact hb

/-- v holds these lines: its own block where 'at_' allows, the lines' where 'at2' allows. -/
def RdL (H : AHeap) (st : St → Prop) (at_ at2 : Nat → Prop) (v : Value) (ls : List (List UInt8)) : Prop :=
  ∃ vs : List Value, RdS H st at_ v vs ∧ vs.length = ls.length ∧ ∀ (i : Nat) x l, vs[i]? = some x → ls[i]? = some l → RdB H st at2 x l

section
variable {H H' : AHeap} {st st' : St → Prop} {at_ at' at2 at2' : Nat → Prop} {v : Value} {ls : List (List UInt8)}

theorem RdL.mono (h : RdL H st at_ at2 v ls) (h1 : ∀ s, st s → st' s) (h2 : ∀ b, b < H.size → at_ b → at' b) (h3 : ∀ b, b < H.size → at2 b → at2' b) : RdL H st' at' at2' v ls := by
  obtain ⟨vs, q1, q2, q3⟩ := h
  exact ⟨vs, q1.mono h1 h2, q2, fun i x l hx hl => (q3 i x l hx hl).mono h1 h3⟩

theorem RdL.frame (h : RdL H st at_ at2 v ls) (hk : ∀ b, b < H.size → at_ b → H'[b]? = H[b]?) (hk2 : ∀ b, b < H.size → at2 b → H'[b]? = H[b]?) : RdL H' st at_ at2 v ls := by
  obtain ⟨vs, q1, q2, q3⟩ := h
  exact ⟨vs, q1.frame hk, q2, fun i x l hx hl => (q3 i x l hx hl).frame hk2⟩

theorem RdL.len (h : RdL H st at_ at2 v ls) : lenV v = some ls.length := by
  obtain ⟨vs, q1, q2, q3⟩ := h
  rw [q1.len, q2]

theorem RdL.nil : RdL H st at_ at2 (.slice none 0 0) [] := ⟨[], .nil, rfl, fun i x l h => by simp at h⟩
end

end Go.Eng

namespace Go.Eng
open Go

section
variable {P : Program} {t : TypeId} {x y : Operand} {k : IntKind} {a b : Int}
theorem abin_lss : abin P .lss t x y (.int k a) (.int k b) = some (.bool (decide (a < b))) := by cases k <;> rfl
theorem abin_leq : abin P .leq t x y (.int k a) (.int k b) = some (.bool (decide (a ≤ b))) := by cases k <;> rfl
theorem abin_gtr : abin P .gtr t x y (.int k a) (.int k b) = some (.bool (decide (b < a))) := by cases k <;> rfl
theorem abin_geq : abin P .geq t x y (.int k a) (.int k b) = some (.bool (decide (b ≤ a))) := by cases k <;> rfl
theorem abin_eql : abin P .eql t x y (.int k a) (.int k b) = some (.bool (decide (a = b))) := by cases k <;> rfl
theorem abin_neq : abin P .neq t x y (.int k a) (.int k b) = some (.bool (!decide (a = b))) := by cases k <;> rfl
theorem abin_add : abin P .add t x y (.int k a) (.int k b) = some (.int k (k.wrap (a + b))) := by cases k <;> rfl
theorem abin_sub : abin P .sub t x y (.int k a) (.int k b) = some (.int k (k.wrap (a - b))) := by cases k <;> rfl
theorem abin_mul : abin P .mul t x y (.int k a) (.int k b) = some (.int k (k.wrap (a * b))) := by cases k <;> rfl
theorem abin_and : abin P .and t x y (.int k a) (.int k b) = some (.int k (k.wrap ((BitVec.ofInt k.bits a &&& BitVec.ofInt k.bits b).toNat))) := by cases k <;> rfl
theorem abin_or : abin P .or t x y (.int k a) (.int k b) = some (.int k (k.wrap ((BitVec.ofInt k.bits a ||| BitVec.ofInt k.bits b).toNat))) := by cases k <;> rfl
theorem abin_shl {j : IntKind} (h : 0 ≤ b) : abin P .shl t x y (.int k a) (.int j b) = some (.int k (k.wrap (a * 2 ^ (min b.toNat k.bits)))) := by
  have : ¬ b < 0 := by omega
  simp only [abin, free, freeN, Bool.and_self, if_true, eqGuard, binOp, Op.shift, if_neg this]
  rfl
theorem abin_shr {j : IntKind} (h : 0 ≤ b) : abin P .shr t x y (.int k a) (.int j b) = some (.int k (a.fdiv (2 ^ (min b.toNat k.bits)))) := by
  have : ¬ b < 0 := by omega
  simp only [abin, free, freeN, Bool.and_self, if_true, eqGuard, binOp, Op.shift, if_neg this]
  rfl
theorem abin_quo (h : b ≠ 0) : abin P .quo t x y (.int k a) (.int k b) = some (.int k (k.wrap (a.tdiv b))) := by
  cases k <;> simp only [abin, free, freeN, Bool.and_self, if_true, eqGuard, binOp, Op.intDiv, if_neg h] <;> rfl
theorem abin_rem (h : b ≠ 0) : abin P .rem t x y (.int k a) (.int k b) = some (.int k (a.tmod b)) := by
  cases k <;> simp only [abin, free, freeN, Bool.and_self, if_true, eqGuard, binOp, Op.intDiv, if_neg h] <;> rfl
end

theorem wrap_i64_id {n : Int} (h1 : -9223372036854775808 ≤ n) (h2 : n < 9223372036854775808) : IntKind.i64.wrap n = n := by
  rw [IntKind.wrap_i64]; omega
theorem wrap_u8_id {n : Int} (h1 : 0 ≤ n) (h2 : n < 256) : IntKind.u8.wrap n = n := by
  rw [IntKind.wrap_u8]; omega

theorem dlt (a b : Nat) : decide ((a : Int) < (b : Int)) = decide (a < b) := by
  rw [decide_eq_decide]; omega

/-- The next index. -/
theorem wrap_succ {n : Nat} (h : n < 9223372036854775807) : IntKind.i64.wrap ((n : Int) + 1) = ((n + 1 : Nat) : Int) := by
  rw [wrap_i64_id (by omega) (by omega)]; rfl

end Go.Eng

namespace Go.Eng
open Go

theorem RdS.one {H : AHeap} {st : St → Prop} {at_ : Nat → Prop} {v : Value} {xs : List Value} (h : RdS H st at_ v xs) : vcells v = [v] ∧ cellOk v = true := by
  obtain ⟨a, c, rfl⟩ := h.shape
  exact ⟨rfl, rfl⟩

theorem RdS.mine {H : AHeap} {st : St → Prop} {at_ : Nat → Prop} {v : Value} {xs : List Value} (h : RdS H st at_ v xs) {b : Nat} (hb : Mine v b) : b < H.size ∧ at_ b := by
  obtain ⟨a, n, c, rfl, rfl⟩ := hb
  rcases h with ⟨h, _⟩ | ⟨b, o, c', cs, s, e1, e2, e3, e4, _⟩
  · cases h
  · cases e1; exact ⟨(Array.getElem?_eq_some_iff.1 e4).1, e3⟩

theorem RdL.mine {H : AHeap} {st : St → Prop} {at_ at2 : Nat → Prop} {v : Value} {ls : List (List UInt8)} (h : RdL H st at_ at2 v ls) {b : Nat} (hb : Mine v b) : b < H.size ∧ at_ b := h.choose_spec.1.mine hb

theorem not_mine_nil {b : Nat} : ¬ Mine (.slice none 0 0) b := by
  rintro ⟨_, _, _, h, _⟩; cases h

/-- A row of one value. -/
def new1V (v : Value) : Option New := if (vcells v).length = 1 then (if (vcells v).all cellOk = true then some ⟨vcells v, 1, some (1, 1)⟩ else none) else none

theorem RdS.new1V {H : AHeap} {st : St → Prop} {at_ : Nat → Prop} {v : Value} {xs : List Value} (h : RdS H st at_ v xs) : new1V v = some ⟨[v], 1, some (1, 1)⟩ := by
  obtain ⟨h1, h2⟩ := h.one
  simp [Eng.new1V, h1, h2]

theorem RdL.okc {H : AHeap} {st : St → Prop} {at2 : Nat → Prop} {vs : List Value} {ls : List (List UInt8)} (hl : vs.length = ls.length)
    (h : ∀ (i : Nat) x l, vs[i]? = some x → ls[i]? = some l → RdB H st at2 x l) : vs.all cellOk = true := by
  rw [List.all_eq_true]
  intro y hy
  obtain ⟨j, hj⟩ := List.mem_iff_getElem?.1 hy
  have hjl : j < vs.length := (List.getElem?_eq_some_iff.1 hj).1
  exact (h j y ls[j] hj (by simp [show j < ls.length by omega])).one.2

/-- The setting of a slice type t, of elements of type e of one cell. -/
structure SlT (P : Program) (t e : TypeId) (by_ : Nat) (z : Value) : Prop where
  el : elemS P t = some e
  sz : sizeT P e = some 1
  byt : bytesT P e = some by_
  ze : zeroT P e = some z
  zl : (vcells z).length = 1
  b0 : by_ ≠ 0

section
variable {P : Program} {t e : TypeId} {by_ : Nat} {z : Value} (S : SlT P t e by_ z)
include S

/-- append([]T{}, x...), T of one cell. -/
theorem SlT.fresh {H : AHeap} {st : St → Prop} {atx : Nat → Prop} {x : Value} {xs : List Value} (hx : RdS H st atx x xs) (hst : ∀ s, st s → s ≠ .dead) (hok : xs.all cellOk = true) (hroom : xs.length * by_ ≤ room) :
    ∃ r H', aappend P (H.push (.cells [] (.rw 1))) t (.slice (some (at0 H.size)) 0 0) x = some (r, H') ∧ RdS H' own1 (fun b => H.size ≤ b) r xs ∧ H.size + 1 ≤ H'.size ∧ (∀ b, b < H.size → H'[b]? = H[b]?) := by
  have hs1 : RdS (H.push (.cells [] (.rw 1))) own1 (fun b => b = H.size) (.slice (some (at0 H.size)) 0 0) [] :=
    .inr ⟨H.size, 0, 0, [], .rw 1, rfl, Nat.le_refl _, rfl, by simp, rfl, by simp, rfl⟩
  have hx1 := hx.frame (H' := H.push (.cells [] (.rw 1))) fun b hb _ => by rw [Array.getElem?_push, if_neg (by omega)]
  obtain ⟨r, H', h1, h2, h3, h4, _, _⟩ := append_spec (P := P) (t := t) S.el S.sz S.byt S.ze S.zl S.b0 hs1 hx1 hst rfl hok (by simpa using hroom)
  simp only [Array.size_push] at h3 h4 h2
  refine ⟨r, H', h1, by simpa using h2.mono (fun _ h => h) (at' := fun b => H.size ≤ b) (fun b _ h => by rcases h with ⟨h, _⟩ | h <;> omega), h3, fun b hb => ?_⟩
  rw [h4 b (by omega) (by rintro ⟨_, _, _, e1, e2⟩; cases e1; simp [at0] at e2; omega), Array.getElem?_push, if_neg (by omega)]

/-- append(s, x...), of what the call owns: its block goes. -/
theorem SlT.more {H : AHeap} {st : St → Prop} {at_ atx : Nat → Prop} {s x : Value} {xs ys : List Value} (hs : RdS H own1 at_ s xs) (hx : RdS H st atx x ys) (hst : ∀ s, st s → s ≠ .dead)
    (hokx : xs.all cellOk = true) (hok : ys.all cellOk = true) (hroom : (xs.length + ys.length) * by_ ≤ room) :
    ∃ r H', aappend P H t s x = some (r, H') ∧ RdS H' own1 (fun b => (at_ b ∧ ys = []) ∨ b = H.size) r (xs ++ ys) ∧ H.size ≤ H'.size ∧ (∀ b, b < H.size → ¬ Mine s b → H'[b]? = H[b]?) := by
  obtain ⟨r, H', h1, h2, h3, h4, _, _⟩ := append_spec (P := P) (t := t) S.el S.sz S.byt S.ze S.zl S.b0 hs hx hst hokx hok hroom
  exact ⟨r, H', h1, h2, h3, h4⟩

/-- append(s, x): one element more, through a block of its own. -/
theorem SlT.one {H : AHeap} {at_ : Nat → Prop} {s x : Value} {xs : List Value} (hs : RdS H own1 at_ s xs) (hx : cellOk x = true)
    (hokx : xs.all cellOk = true) (hroom : (xs.length + 1) * by_ ≤ room) :
    ∃ r H', aappend P (H.push (.cells [x] (.rw 1))) t s (.slice (some (at0 H.size)) 1 1) = some (r, H') ∧ RdS H' own1 (fun b => b = H.size + 1) r (xs ++ [x]) ∧ H'.size = H.size + 2 ∧
      (∀ b, b < H.size → ¬ Mine s b → H'[b]? = H[b]?) := by
  have hx1 : RdS (H.push (.cells [x] (.rw 1))) own1 (fun b => b = H.size) (.slice (some (at0 H.size)) 1 1) [x] :=
    .inr ⟨H.size, 0, 1, [x], .rw 1, rfl, Nat.le_refl _, rfl, by simp, rfl, by simp, rfl⟩
  have hs1 := hs.frame (H' := H.push (.cells [x] (.rw 1))) fun b hb _ => by rw [Array.getElem?_push, if_neg (by omega)]
  obtain ⟨r, H', h1, h2, h3, h4, _, h5⟩ := append_spec (P := P) (t := t) S.el S.sz S.byt S.ze S.zl S.b0 hs1 hx1 (fun s h => by rw [show s = .rw 1 from h]; simp) hokx (by simp [hx]) (by simpa using hroom)
  simp only [Array.size_push] at h2 h3 h4 h5
  refine ⟨r, H', h1, h2.mono (fun _ h => h) (fun b _ h => by rcases h with ⟨_, h⟩ | h; cases h; exact h), (h5 (by simp)).2, fun b hb hk => ?_⟩
  rw [h4 b (by omega) hk, Array.getElem?_push, if_neg (by omega)]

/-- append(out, line): one line more. -/
theorem SlT.line {H : AHeap} {at_ at2 atx : Nat → Prop} {out x : Value} {ls : List (List UInt8)} {l : List UInt8} (ho : RdL H own1 at_ at2 out ls) (hx : RdB H own1 atx x l)
    (h2 : ∀ b, at2 b → ¬ Mine out b) (hxk : ∀ b, atx b → ¬ Mine out b) (hroom : (ls.length + 1) * by_ ≤ room) :
    ∃ r H', aappend P (H.push (.cells [x] (.rw 1))) t out (.slice (some (at0 H.size)) 1 1) = some (r, H') ∧
      RdL H' own1 (fun b => b = H.size + 1) (fun b => (at2 b ∨ atx b) ∧ b < H.size) r (ls ++ [l]) ∧ H'.size = H.size + 2 ∧ (∀ b, b < H.size → ¬ Mine out b → H'[b]? = H[b]?) := by
  obtain ⟨vs, q1, q2, q3⟩ := ho
  obtain ⟨r, H', h1, h3, h4, h5⟩ := S.one q1 hx.one.2 (RdL.okc q2 q3) (by rw [q2]; exact hroom)
  refine ⟨r, H', h1, ⟨vs ++ [x], h3, by simp [q2], fun i y m hy hm => ?_⟩, h4, h5⟩
  by_cases hi : i < vs.length
  · rw [List.getElem?_append_left hi] at hy
    rw [List.getElem?_append_left (by omega)] at hm
    exact ((q3 i y m hy hm).mono (st' := own1) (at' := fun b => (at2 b ∨ atx b) ∧ b < H.size ∧ ¬ Mine out b) (fun _ h => h) (fun b hb h => ⟨.inl h, hb, h2 b h⟩)).frame (H' := H') (fun b hb h => h5 b hb h.2.2) |>.mono (fun _ h => h) fun b _ h => ⟨h.1, h.2.1⟩
  · have hi' : i = vs.length := by
      have := (List.getElem?_eq_some_iff.1 hy).1
      simp at this; omega
    subst hi'
    rw [List.getElem?_append_right (Nat.le_refl _), Nat.sub_self] at hy
    rw [q2, List.getElem?_append_right (Nat.le_refl _), Nat.sub_self] at hm
    simp only [List.getElem?_cons_zero, Option.some.injEq] at hy hm
    subst hy; subst hm
    exact (hx.mono (st' := own1) (at' := fun b => (at2 b ∨ atx b) ∧ b < H.size ∧ ¬ Mine out b) (fun _ h => h) (fun b hb h => ⟨.inr h, hb, hxk b h⟩)).frame (H' := H') (fun b hb h => h5 b hb h.2.2) |>.mono (fun _ h => h) fun b _ h => ⟨h.1, h.2.1⟩

/-- []T{}. -/
theorem SlT.new0 {ρ : Operand → Option Value} {dst : Option Tmp} {ty : TypeId} {pos : String} {after : Array Edge} {guard : Option (Nat × Bool)} :
    aalloc P ρ { dst, op := .buildSlice t 0 #[], type := ty, pos, after, guard } = some ⟨[], 1, some (0, 0)⟩ := by
  unfold aalloc
  simp only [S.el, partsOf, S.sz, S.ze, S.zl]
  rfl

/-- []T{x}. -/
theorem SlT.new1 {ρ : Operand → Option Value} {dst : Option Tmp} {ty : TypeId} {pos : String} {after : Array Edge} {guard : Option (Nat × Bool)} {x : Operand} :
    aalloc P ρ { dst, op := .buildSlice t 1 #[(0, x)], type := ty, pos, after, guard } = (ρ x).bind new1V := by
  have hz := S.zl
  unfold aalloc
  simp only [S.el, partsOf]
  match hv : vcells z, hz with
  | [c], _ =>
    cases hx : ρ x with
    | none => rfl
    | some v =>
      simp only [Option.bind_some, new1V]
      by_cases h : (vcells v).length = 1
      · match hw : vcells v, h with
        | [d], _ => simp [fillL, hw, blit, List.replicate, S.sz, S.ze, hv]
      · simp [fillL, h, S.sz, S.ze, hv]

end

end Go.Eng

namespace Go.Eng
open Go

def at0op (op : Op) : Oper := { dst := none, op, type := 0, pos := "", after := #[], guard := none }

def convB (P : Program) (H : AHeap) (s d : TypeId) (v : Value) : Option Value := alight P (fun _ => some v) H (at0op (.convert s d (.tmp 0)))
def lenB (P : Program) (t : TypeId) (v : Value) : Option Value := alight P (fun _ => some v) #[] (at0op (.call { callee := .builtin .len, args := #[.tmp 0], argTypes := #[t] }))
def idxB (P : Program) (t : TypeId) (v i : Value) : Option Value := alight P (fun x => match x with | .tmp 0 => some v | _ => some i) #[] (at0op (.indexAddr t (.tmp 0) (.tmp 1)))
def slcB (P : Program) (H : AHeap) (t : TypeId) (v : Value) (lo hi : Option Value) : Option Value :=
  alight P (fun x => match x with | .tmp 0 => some v | .tmp 1 => lo | _ => hi) H (at0op (.slice t (.tmp 0) (lo.map fun _ => .tmp 1) (hi.map fun _ => .tmp 2) none))

section
variable {P : Program} {ρ : Operand → Option Value} {H : AHeap} {dst : Option Tmp} {ty : TypeId} {pos : String} {after : Array Edge} {guard : Option (Nat × Bool)} {s d t : TypeId} {x i lo hi : Operand}

theorem alight_conv : alight P ρ H { dst, op := .convert s d x, type := ty, pos, after, guard } = (ρ x).bind (convB P H s d) := by
  cases h : ρ x <;> simp [alight, convB, at0op, h]

theorem alight_len : alight P ρ H { dst, op := .call { callee := .builtin .len, args := #[x], argTypes := #[t] }, type := ty, pos, after, guard } = (ρ x).bind (lenB P t) := by
  cases h : ρ x <;> simp [alight, lenB, at0op, h, mapOpt]

theorem alight_idx : alight P ρ H { dst, op := .indexAddr t x i, type := ty, pos, after, guard } = (ρ x).bind fun v => (ρ i).bind (idxB P t v) := by
  cases h : ρ x with
  | none => simp [alight, h]
  | some v => cases hi : ρ i with
    | none => simp [alight, h, hi]
    | some w => simp [alight, idxB, at0op, h, hi]

theorem alight_slc0 : alight P ρ H { dst, op := .slice t x none none none, type := ty, pos, after, guard } = (ρ x).bind fun v => slcB P H t v none none := by
  cases h : ρ x <;> simp [alight, slcB, at0op, h]
theorem alight_slcl : alight P ρ H { dst, op := .slice t x (some lo) none none, type := ty, pos, after, guard } = (ρ x).bind fun v => (ρ lo).bind fun l => slcB P H t v (some l) none := by
  cases h : ρ x with
  | none => simp [alight, h]
  | some v => cases hl : ρ lo with
    | none =>
      simp only [alight, h, hl, Option.bind_some, Option.bind_none]
      cases v with
      | slice a n c => simp [aslice, bound, hl]
      | string s => simp [okArg, hl]
      | pointer a => cases a with
        | none => rfl
        | some a => simp only [Option.map_some, hl, Option.map_none]; split <;> simp [bound]
      | _ => rfl
    | some l => simp [alight, slcB, at0op, h, hl]
theorem alight_slch : alight P ρ H { dst, op := .slice t x none (some hi) none, type := ty, pos, after, guard } = (ρ x).bind fun v => (ρ hi).bind fun l => slcB P H t v none (some l) := by
  cases h : ρ x with
  | none => simp [alight, h]
  | some v => cases hl : ρ hi with
    | none =>
      simp only [alight, h, hl, Option.bind_some, Option.bind_none]
      cases v with
      | slice a n c => simp [aslice, bound, hl]
      | string s => simp [okArg, hl]
      | pointer a => cases a with
        | none => rfl
        | some a => simp only [Option.map_some, hl, Option.map_none]; split <;> simp [bound]
      | _ => rfl
    | some l => simp [alight, slcB, at0op, h, hl]
end

section
variable {P : Program} {H : AHeap} {st : St → Prop} {at_ : Nat → Prop} {v : Value} {xs : List Value} {bs : List UInt8} {t e : TypeId}

theorem lenB_of (h : RdS H st at_ v xs) (ht : P.underlying t = some (.slice e)) : lenB P t v = some (.int .i64 xs.length) := by
  obtain ⟨a, c, rfl⟩ := h.shape
  simp [lenB, alight, at0op, mapOpt, ht, goInt]

theorem lenB_str {s : ByteArray} (ht : P.underlying t = some .string) : lenB P t (.string s) = some (.int .i64 s.size) := by
  simp [lenB, alight, at0op, mapOpt, ht, goInt]

theorem convB_of (h : RdB H st at_ v bs) (hst : ∀ s, st s → s ≠ .dead) {s d : TypeId} (hs : P.underlying s = some (.slice e)) (hd : P.underlying d = some .string) (he : P.underlying e = some (.int .u8)) :
    convB P H s d v = some (.string ⟨⟨bs⟩⟩) := by
  have hb := bytesOf_bcells bs
  rcases h with ⟨rfl, h⟩ | ⟨b, o, c, cs, st', rfl, e2, e3, e4, e5, e6, e7⟩
  · rw [h] at hb
    simp only [bytesOfCells, Option.some.injEq] at hb
    subst hb
    simp [convB, alight, at0op, hs, hd, he]
    rfl
  · simp only [convB, alight, at0op, hs, hd, he]
    rw [cells?_eq e4 (hst st' e5) e6, e7]
    simp only [hb]
    rfl

theorem idxB_of (h : RdS H st at_ v xs) (hst : ∀ s, st s → s ≠ .dead) (ht : P.underlying t = some (.slice e)) (hsz : sizeT P e = some 1) (hag : isAggT P e = some false) {i : Nat} {x : Value} (hx : xs[i]? = some x) :
    ∃ ad, (∀ k, idxB P t v (.int k i) = some (.pointer (some ad))) ∧ aload P H e ad = some x := by
  obtain ⟨b, o, c, rfl, hc⟩ := h.at hst hx
  have hi : i < xs.length := (List.getElem?_eq_some_iff.1 hx).1
  refine ⟨⟨b, o + i, none⟩, fun k => ?_, by simp [aload, hag, hc]⟩
  simp [idxB, alight, at0op, ht, hsz, hi, addr_add0]

theorem slcB_of (h : RdS H st at_ v xs) (hst : ∀ s, st s → any1 s) (ht : elemS P t = some e) (hsz : sizeT P e = some 1) {l n : Nat} (hl : l ≤ n) (hn : n ≤ xs.length) :
    ∃ r, (∀ k j, slcB P H t v (some (.int k l)) (some (.int j n)) = some r) ∧ RdS H st at_ r ((xs.take n).drop l) := by
  rcases h with ⟨rfl, rfl⟩ | ⟨b, o, c, cs, s, rfl, e2, e3, e4, e5, e6, e7⟩
  · obtain rfl : n = 0 := by simpa using hn
    obtain rfl : l = 0 := by omega
    exact ⟨.slice none 0 0, fun k j => by simp [slcB, alight, at0op, slOk, aslice, bound, idx, ht, hsz], .inl ⟨rfl, rfl⟩⟩
  · have hso : slOk P H t (some ⟨b, o, none⟩) = true := by
      have := hst s e5
      rcases this with rfl | rfl <;> simp [slOk, stOf, e4, ht, hsz]
    refine ⟨.slice (some ⟨b, o + l, none⟩) (n - l) (c - l), fun k j => ?_, .inr ⟨b, o + l, c - l, cs, s, ?_, ?_, e3, e4, e5, ?_, ?_⟩⟩
    · have hnc : (n : Int) ≤ c := by omega
      have hln : (l : Int) ≤ n := by omega
      simp [slcB, alight, at0op, hso, aslice, bound, idx, ht, hsz, hnc, hln, addr_add0]
    · simp [Nat.min_eq_left hn]
    · simp; omega
    · simp; omega
    · have h1 : ((cs.drop (o + l)).take (n - l)) = ((cs.drop o).take xs.length |>.take n).drop l := by
        rw [List.take_take, Nat.min_eq_left hn, List.drop_take, List.drop_drop]
      rw [e7] at h1
      rw [List.length_drop, List.length_take, Nat.min_eq_left hn]
      exact h1

theorem slcB_lo (h : RdS H st at_ v xs) (hst : ∀ s, st s → any1 s) (ht : elemS P t = some e) (hsz : sizeT P e = some 1) {l : Nat} (hl : l ≤ xs.length) :
    ∃ r, (∀ k, slcB P H t v (some (.int k l)) none = some r) ∧ RdS H st at_ r (xs.drop l) := by
  obtain ⟨r, h1, h2⟩ := slcB_of h hst ht hsz hl (Nat.le_refl _)
  refine ⟨r, fun k => ?_, by rwa [List.take_length] at h2⟩
  rw [← h1 k .i64]
  rcases h with ⟨rfl, rfl⟩ | ⟨b, o, c, cs, s, rfl, e2, _⟩
  · obtain rfl : l = 0 := by simpa using hl
    simp [slcB, alight, at0op, slOk, aslice, bound, idx, ht, hsz]
  · have hnc : (xs.length : Int) ≤ c := by omega
    simp [slcB, alight, at0op, aslice, bound, idx, ht, hsz, hnc]
end

section
variable {P : Program} {t : TypeId} {x y : Operand} {a b : ByteArray}
theorem list_beq (l m : List UInt8) : (l == m) = decide (l = m) := by by_cases h : l = m <;> simp [h]
theorem abin_str_eql : abin P .eql t x y (.string a) (.string b) = some (.bool (decide (a.data.toList = b.data.toList))) := by
  have : abin P .eql t x y (.string a) (.string b) = some (.bool (a.toList == b.toList)) := rfl
  rw [this, ByteArray.toList_eq, ByteArray.toList_eq, list_beq]
theorem abin_str_neq : abin P .neq t x y (.string a) (.string b) = some (.bool (!decide (a.data.toList = b.data.toList))) := by
  have : abin P .neq t x y (.string a) (.string b) = some (.bool (!(a.toList == b.toList))) := rfl
  rw [this, ByteArray.toList_eq, ByteArray.toList_eq, list_beq]
theorem abin_str_lss : abin P .lss t x y (.string a) (.string b) = some (.bool (Op.bytesLess a.data.toList b.data.toList)) := by
  have : abin P .lss t x y (.string a) (.string b) = some (.bool (Op.bytesLess a.toList b.toList)) := rfl
  rw [this, ByteArray.toList_eq, ByteArray.toList_eq]
theorem abin_str_gtr : abin P .gtr t x y (.string a) (.string b) = some (.bool (!(Op.bytesLess a.data.toList b.data.toList || decide (a.data.toList = b.data.toList)))) := by
  have : abin P .gtr t x y (.string a) (.string b) = some (.bool (!(Op.bytesLess a.toList b.toList || (a.toList == b.toList)))) := rfl
  rw [this, ByteArray.toList_eq, ByteArray.toList_eq, list_beq]
end

end Go.Eng

namespace Go.Eng
open Go

/-- The same blocks, of the same lengths and states. -/
structure Shp (H H' : AHeap) : Prop where
  size : H'.size = H.size
  cells : ∀ (b : Nat) c s, H[b]? = some (.cells c s) → ∃ c', H'[b]? = some (.cells c' s) ∧ c'.length = c.length

theorem Shp.refl (H : AHeap) : Shp H H := ⟨rfl, fun _ c _ h => ⟨c, h, rfl⟩⟩
theorem Shp.trans {a b c : AHeap} (h : Shp a b) (k : Shp b c) : Shp a c :=
  ⟨k.size.trans h.size, fun i x s hx => let ⟨y, h1, h2⟩ := h.cells i x s hx; let ⟨z, h3, h4⟩ := k.cells i y s h1; ⟨z, h3, h4.trans h2⟩⟩

section
variable {H H' : AHeap} {st : St → Prop} {at_ : Nat → Prop} {v : Value} {xs : List Value}

theorem RdS.self (h : RdS H st at_ v xs) : RdS H st (Mine v) v xs := by
  rcases h with h | ⟨b, o, c, cs, s, rfl, e2, e3, e4, e5, e6, e7⟩
  · exact .inl h
  · exact .inr ⟨b, o, c, cs, s, rfl, e2, ⟨_, _, _, rfl, rfl⟩, e4, e5, e6, e7⟩

/-- What the call owns lies in blocks of its own kind. -/
theorem RdS.mono1 {at' : Nat → Prop} (h : RdS H own1 at_ v xs) (h2 : ∀ b c, H[b]? = some (.cells c (.rw 1)) → at_ b → at' b) : RdS H own1 at' v xs := by
  rcases h with h | ⟨b, o, c, cs, s, e1, e2, e3, e4, e5, e6, e7⟩
  · exact .inl h
  · obtain rfl : s = .rw 1 := e5
    exact .inr ⟨b, o, c, cs, _, e1, e2, h2 b cs e4 e3, e4, rfl, e6, e7⟩

theorem RdL.mono1 {at' at2 at2' : Nat → Prop} {ls : List (List UInt8)} (h : RdL H own1 at_ at2 v ls) (h1 : ∀ b c, H[b]? = some (.cells c (.rw 1)) → at_ b → at' b)
    (h2 : ∀ b c, H[b]? = some (.cells c (.rw 1)) → at2 b → at2' b) : RdL H own1 at' at2' v ls := by
  obtain ⟨vs, q1, q2, q3⟩ := h
  exact ⟨vs, q1.mono1 h1, q2, fun i x l hx hl => (q3 i x l hx hl).mono1 h2⟩

theorem own1.alive {s : St} (h : own1 s) : s ≠ .dead := by rw [show s = .rw 1 from h]; simp

theorem RdS.shp (h : RdS H st at_ v xs) (k : Shp H H') : ∃ ys, ys.length = xs.length ∧ RdS H' st at_ v ys := by
  rcases h with ⟨rfl, rfl⟩ | ⟨b, o, c, cs, s, rfl, e2, e3, e4, e5, e6, e7⟩
  · exact ⟨[], rfl, .nil⟩
  · obtain ⟨cs', h1, h2⟩ := k.cells b cs s e4
    have hl : ((cs'.drop o).take xs.length).length = xs.length := by simp; omega
    exact ⟨(cs'.drop o).take xs.length, hl, .inr ⟨b, o, c, cs', s, by rw [hl], by omega, e3, h1, e5, by omega, by rw [hl]⟩⟩

/-- x[i] = y, of one-cell elements. -/
theorem RdS.put {P : Program} {t e : TypeId} (h : RdS H own1 at_ v xs) (ht : P.underlying t = some (.slice e)) (hsz : sizeT P e = some 1) {i : Nat} (hi : i < xs.length) :
    ∃ ad, (∀ k, idxB P t v (.int k i) = some (.pointer (some ad))) ∧ ∀ y, vcells y = [y] → cellOk y = true →
      ∃ H', astore P H e ad y = some H' ∧ Shp H H' ∧ (∀ b, ¬ Mine v b → H'[b]? = H[b]?) ∧ RdS H' own1 at_ v (xs.set i y) := by
  rcases h with ⟨rfl, rfl⟩ | ⟨b, o, c, cs, s, rfl, e2, e3, e4, e5, e6, e7⟩
  · simp at hi
  · obtain rfl : s = .rw 1 := e5
    have hb : b < H.size := (Array.getElem?_eq_some_iff.1 e4).1
    refine ⟨⟨b, o + i, none⟩, fun k => by simp [idxB, alight, at0op, ht, hsz, hi, addr_add0], fun y hy hok => ?_⟩
    have hst : astore P H e ⟨b, o + i, none⟩ y = some (H.setIfInBounds b (.cells (cs.set (o + i) y) (.rw 1))) := by
      have hfit : o + i + 1 ≤ cs.length := by omega
      simp [astore, hsz, hy, AHeap.store, e4, hfit, hok, blit]
    refine ⟨_, hst, ⟨by simp, fun b' c' s' hb' => ?_⟩, fun b' hm => ?_, .inr ⟨b, o, c, cs.set (o + i) y, .rw 1, by simp, by simpa using e2, e3, by simp [hb], rfl, by simpa using e6, ?_⟩⟩
    · by_cases hbb : b = b'
      · subst hbb
        rw [e4] at hb'
        cases hb'
        exact ⟨cs.set (o + i) y, by simp [hb], by simp⟩
      · exact ⟨c', by rw [Array.getElem?_setIfInBounds, if_neg hbb]; exact hb', rfl⟩
    · rw [Array.getElem?_setIfInBounds, if_neg]
      rintro rfl
      exact hm ⟨_, _, _, rfl, rfl⟩
    · refine List.ext_getElem? fun j => ?_
      have e7j : ∀ j : Nat, ((cs.drop o).take xs.length)[j]? = xs[j]? := fun j => by rw [e7]
      simp only [List.getElem?_take, List.getElem?_drop, List.length_set, List.getElem?_set] at e7j ⊢
      by_cases hij : i = j
      · subst hij
        rw [if_pos hi, if_pos rfl, if_pos (by omega), if_pos rfl, if_pos hi]
      · rw [if_neg hij, ← e7j j]
        split
        · rw [if_neg (by omega)]
        · rfl
end

end Go.Eng

namespace Go.Eng
open Go

mutual
theorem vbeq_refl : ∀ v : Value, vbeq v v = true
  | .bool a => by simp [vbeq]
  | .int k a => by simp [vbeq]
  | .float k a => by simp [vbeq]
  | .complex k a b => by simp [vbeq]
  | .string a => by simp [vbeq]
  | .pointer a => by simp [vbeq]
  | .slice a n c => by simp [vbeq]
  | .map a => by simp [vbeq]
  | .chan a => by simp [vbeq]
  | .nilFunc => by simp [vbeq]
  | .nilIface => by simp [vbeq]
  | .iface t v => by simp [vbeq, vbeq_refl v]
  | .func f ⟨x⟩ ⟨y⟩ => by simp [vbeq, vbeqL_refl x, vbeqL_refl y]
  | .agg ⟨x⟩ => by simp [vbeq, vbeqL_refl x]
  | .tuple ⟨x⟩ => by simp [vbeq, vbeqL_refl x]
theorem vbeqL_refl : ∀ l : List Value, vbeqL l l = true
  | [] => rfl
  | v :: l => by simp [vbeqL, vbeq_refl v, vbeqL_refl l]
end

theorem obeq_refl (c : List Value) (s : St) : obeq (some (.cells c s)) (some (.cells c s)) = true := by
  simp only [obeq, vbeqL_refl, Bool.and_true]
  cases s <;> simp [St.beq]

def atraceL (C : Ctx) (rec : Req → Option Rep) (ops : Array Oper) (base : Nat) : List (Oper × Nat) → ASt → Option (List ASt)
  | [], s => some [s]
  | (o, r) :: l, s => if awanted ops o s.tmps then
      match aop1 C rec (some (base + r)) o s with
      | some (.normal, s') => (atraceL C rec ops base l s').map (s :: ·)
      | _ => none
    else (atraceL C rec ops base l (s.put o.dst undef s.H)).map (s :: ·)

theorem atrace_L {C : Ctx} {rec : Req → Option Rep} {ops : Array Oper} {base : Nat} : ∀ (l : List (Oper × Nat)) (k : Nat), (∀ j p, l[j]? = some p → ops[k + j]? = some p.1 ∧ rank C.P ops (k + j) = p.2) →
    ∀ s, atraceL C rec ops base l s = atrace C rec ops base (List.range' k l.length) s
  | [], k, _, s => rfl
  | (o, r) :: l, k, h, s => by
    obtain ⟨h0, h1⟩ := h 0 (o, r) rfl
    simp only [Nat.add_zero] at h0 h1
    have hr := atrace_L (C := C) (rec := rec) (ops := ops) (base := base) l (k + 1) (fun j p hp => by have := h (j + 1) p (by simpa using hp); rwa [show k + 1 + j = k + (j + 1) by omega])
    simp only [List.length_cons, List.range'_succ, atrace, atraceL, astep, h0, h1]
    cases hw : awanted ops o s.tmps
    · simp only [Bool.false_eq_true, if_false, hr]
      cases atrace C rec ops base (List.range' (k + 1) l.length) (s.put o.dst undef s.H) <;> rfl
    · simp only [if_true]
      cases ha : aop1 C rec (some (base + r)) o s with
      | none => rfl
      | some p =>
        obtain ⟨e, s'⟩ := p
        cases e with
        | normal =>
          simp only [hr]
          cases atrace C rec ops base (List.range' (k + 1) l.length) s' <;> rfl
        | jump c => rfl
        | panic v => rfl

/-- What is to be looked at: pairs of a block that is made, or a look, and a call or store that is not bound to it. -/
def pairsOf (P : Program) (ops : Array Oper) : List (Nat × Nat) :=
  let b := Region.before ops
  (List.range ops.size).flatMap fun i => match ops[i]? with
    | none => []
    | some o => if heavy o then [] else (List.range ops.size).filterMap fun h => match ops[h]? with
      | none => none
      | some q => if heavy q && (if isAlloc P o then (decide (h < i) || !ordered b i h) else (looks o && !ordered b i h && !ordered b h i)) then some (i, h) else none

def chkP (C : Ctx) (ops : Array Oper) (base : Nat) (rk : List Nat) (tr : List ASt) (p : Nat × Nat) : Bool :=
  match ops[p.1]?, tr[p.1]?, ops[p.2]?, tr[p.2]?, tr[p.2 + 1]? with
  | some o, some s, some q, some s0, some s1 =>
    !awanted ops o s.tmps || !awanted ops q s0.tmps ||
    (if isAlloc C.P o then (if p.2 < p.1 then isHole s0.H[base + rk.getD p.1 0]? else obeq s0.H[base + rk.getD p.1 0]? s1.H[base + rk.getD p.1 0]?)
     else match areads (aeval C.G s.tmps) o with
      | none => true
      | some (blk, full) => if full then obeq s0.H[blk]? s1.H[blk]? else stOf s0.H blk == stOf s1.H blk)
  | _, _, _, _, _ => false

/-- The looks: none of them at a block that is not made yet. -/
def looksOf (P : Program) (ops : Array Oper) : List Nat := (List.range ops.size).filter fun i => match ops[i]? with
  | none => false
  | some o => !heavy o && !isAlloc P o && looks o

def chkL (C : Ctx) (ops : Array Oper) (base N : Nat) (rk : List Nat) (tr : List ASt) (i : Nat) : Bool :=
  match ops[i]?, tr[i]? with
  | some o, some s => !awanted ops o s.tmps || match areads (aeval C.G s.tmps) o with
    | none => true
    | some (blk, _) => decide (blk < base + rk.getD i 0) || decide (base + N ≤ blk)
  | _, _ => false

section
variable {C : Ctx} {fn : FuncId} {rd : Option Nat} {s : ASt} {Q : AExit → ASt → Prop}

theorem Wc.drawG {id : Nat} {ops : Array Oper} (hst : drawStat C.P ops = true) {rk : List Nat} (hrk : (List.range ops.size).map (rank C.P ops) = rk) {N : Nat} (hN : rank C.P ops ops.size = N)
    {prs : List (Nat × Nat)} (hpr : pairsOf C.P ops = prs) {lks : List Nat} (hlk : looksOf C.P ops = lks) {tr : List ASt}
    (htr : atraceL C (evw C) ops s.H.size (ops.toList.zip rk) { s with H := holes s.H N } = some tr) (hchk : prs.all (chkP C ops s.H.size rk tr) = true) (hchl : lks.all (chkL C ops s.H.size N rk tr) = true)
    {s' : ASt} (hlast : tr.getLast? = some s') (k : Q .normal s') : Wc C fn rd (.region id ops true) s Q := by
  subst hrk hN hpr hlk
  have hgetD : ∀ i, i < ops.size → ((List.range ops.size).map (rank C.P ops)).getD i 0 = rank C.P ops i := fun i hi => by simp [List.getD, hi]
  rw [atrace_L _ 0 fun j p hp => by
    rw [List.getElem?_zip_eq_some] at hp
    obtain ⟨h1, h2⟩ := hp
    rw [List.getElem?_map, Option.map_eq_some_iff] at h2
    obtain ⟨i, h3, h4⟩ := h2
    rw [List.getElem?_range] at h3
    · cases h3
      rw [Nat.zero_add]
      exact ⟨by simpa using h1, h4⟩
    · by_cases hj : j < ops.size
      · exact hj
      · rw [List.getElem?_eq_none (by simpa using hj)] at h3; cases h3] at htr
  rw [show (ops.toList.zip ((List.range ops.size).map (rank C.P ops))).length = ops.size by simp, ← List.range_eq_range'] at htr
  obtain ⟨t1, t2, t3⟩ := atrace_spec _ _ _ htr
  simp only [List.length_range] at t1
  rw [List.all_eq_true] at hchk hchl
  have hdyn : drawDyn C ops s.H.size tr = true := by
    unfold drawDyn
    simp only [List.all_eq_true, List.mem_range]
    intro i hi
    have ho : ops[i]? = some ops[i] := by simp [hi]
    have ht : ∀ j, j ≤ ops.size → ∃ x, tr[j]? = some x := fun j hj => ⟨tr[j]'(by omega), by simp [show j < tr.length by omega]⟩
    obtain ⟨x, hx⟩ := ht i (by omega)
    rw [ho, hx]
    simp only
    split
    · rfl
    · rename_i hnh
      simp only [Bool.or_eq_true, not_or, Bool.not_eq_true, Bool.not_eq_false'] at hnh
      obtain ⟨hnh, hwi⟩ := hnh
      have pair : ∀ h q, ops[h]? = some q → heavy q = true → (if isAlloc C.P ops[i] then (decide (h < i) || !ordered (Region.before ops) i h) else (looks ops[i] && !ordered (Region.before ops) i h && !ordered (Region.before ops) h i)) = true →
          chkP C ops s.H.size ((List.range ops.size).map (rank C.P ops)) tr (i, h) = true := by
        intro h q hq hhq hc
        apply hchk
        unfold pairsOf
        rw [List.mem_flatMap]
        refine ⟨i, by simp [hi], ?_⟩
        rw [ho]
        simp only [hnh, Bool.false_eq_true, if_false]
        rw [List.mem_filterMap]
        refine ⟨h, by simp [(Array.getElem?_eq_some_iff.1 hq).1], ?_⟩
        rw [hq]
        simp only [hhq, hc, Bool.and_self, if_true]
      split
      · rename_i hal
        simp only [List.all_eq_true, List.mem_range]
        intro h hlt
        have hoh : ops[h]? = some ops[h] := by simp [hlt]
        obtain ⟨y, hy⟩ := ht h (by omega)
        obtain ⟨z, hz⟩ := ht (h + 1) (by omega)
        rw [hoh, hy, hz]
        simp only
        split
        · rename_i hhq
          simp only [Bool.and_eq_true] at hhq
          by_cases hord : h < i
          · have := pair h _ hoh hhq.1 (by simp [hal, hord])
            simpa [chkP, ho, hx, hoh, hy, hz, hwi, hhq.2, hal, hord, hi] using this
          · cases hor : ordered (Region.before ops) i h
            · have := pair h _ hoh hhq.1 (by simp [hal, hor])
              simpa [chkP, ho, hx, hoh, hy, hz, hwi, hhq.2, hal, hord, hi] using this
            · simp [hord]
        · rfl
      · rename_i hal
        have hal' : isAlloc C.P ops[i] = false := by simpa using hal
        split
        · rfl
        · rename_i blk full hrd
          have hlooks : looks ops[i] = true := by
            cases hl : looks ops[i]
            · rw [looks_of hl] at hrd; cases hrd
            · rfl
          simp only [Bool.and_eq_true, List.all_eq_true, List.mem_range]
          refine ⟨?_, fun h hlt => ?_⟩
          · have := hchl i (by simp [looksOf, hi, hnh, hal', hlooks])
            simpa [chkL, ho, hx, hwi, hrd, hi] using this
          · have hoh : ops[h]? = some ops[h] := by simp [hlt]
            obtain ⟨y, hy⟩ := ht h (by omega)
            obtain ⟨z, hz⟩ := ht (h + 1) (by omega)
            rw [hoh, hy, hz]
            simp only
            split
            · rename_i hhq
              simp only [Bool.and_eq_true, Bool.not_eq_true'] at hhq
              obtain ⟨⟨⟨g1, g2⟩, g3⟩, g4⟩ := hhq
              have := pair h _ hoh g1 (by simp [hal', hlooks, g3, g4])
              simpa [chkP, ho, hx, hoh, hy, hz, hwi, g2, hal', hrd] using this
            · rfl
  refine ⟨.normal, s', ?_, k⟩
  simp only [acode, aregion, if_true, if_pos hst, htr, hdyn, hlast, Option.map_some]
end
end Go.Eng

namespace Go.Eng
open Go
/-- A frame's slots, one by one. -/
theorem slots (n : Nat) (l : List Value) (h : l.length = n) : ∃ y : Nat → Value, l = (List.range n).map y ∧ ∀ i, i < n → l[i]? = some (y i) := by
  refine ⟨fun i => l.getD i undef, List.ext_getElem? fun i => ?_, fun i hi => by simp [List.getD, show i < l.length by omega]⟩
  by_cases hi : i < n
  · simp [List.getD, hi, show i < l.length by omega]
  · rw [List.getElem?_eq_none (by omega), List.getElem?_eq_none (by simp; omega)]
end Go.Eng

namespace Go.Eng
open Go
section
variable {C : Ctx} {fn : FuncId} {rd : Option Nat} {s : ASt} {Q : AExit → ASt → Prop}

/-- Code in a row, grouped anew: to show once what many paths share. -/
theorem Wc.assoc {a b c : Code} (h : Wc C fn rd (.seq (.seq a b) c) s Q) : Wc C fn rd (.seq a (.seq b c)) s Q := by
  obtain ⟨e, s', h1, h2⟩ := h
  refine ⟨e, s', ?_, h2⟩
  simp only [acode] at h1 ⊢
  cases ha : acode C (evw C) fn rd a s with
  | none => rw [ha] at h1; exact h1
  | some p =>
    obtain ⟨e1, s1⟩ := p
    rw [ha] at h1
    cases e1 <;> exact h1

/-- First a, of which Q1 is shown; then b, from Q1 alone. -/
theorem Wc.cut {a b : Code} (Q1 : ASt → Prop) (h : Wc C fn rd a s (fun e s' => match e with | .normal => Q1 s' | e => Q e s')) (k : ∀ s', Q1 s' → Wc C fn rd b s' Q) : Wc C fn rd (.seq a b) s Q :=
  .seq (h.mono fun e s' hq => by cases e <;> first | exact k _ hq | exact hq)
end
end Go.Eng

namespace Go.Eng
open Go

/-- Data, as deep as it goes: a scalar; a slice of n elements of z cells; a struct or array; an interface value. -/
inductive DV where
  | sc (v : Value)
  | sl (z n : Nat) (cs : List DV)
  | ag (cs : List DV)
  | ifc (t : TypeId) (d : DV)

/-- A value of a frame: data that nobody writes; a slice of an object, a pointer into one; a pointer to data. -/
inductive PV where
  | bad
  | dv (d : DV)
  | ow (k off n : Nat)
  | pt (k off : Nat)
  | ld (cs : List DV)
  | ag (cs : List PV)
  | tup (cs : List PV)
  | fn (f : FuncId) (first cap : List PV)
  | ifc (t : TypeId) (x : PV)

/-- An object: a row that one owner writes; a variable; a row that is written no more; a text that is gone through. -/
inductive Ob where
  | gone
  | row (z : Nat) (cs : List DV)
  | var (cs : List PV)
  | fro (z : Nat) (cs : List DV)
  | itr (s : ByteArray) (pos : Nat)

def Ob.live : Ob → Bool
  | .row _ _ => true
  | .var _ => true
  | .itr _ _ => true
  | _ => false

abbrev Blks := List (Option (Nat × Nat))

inductive RD (H : AHeap) (Z : Nat → Prop) : DV → Value → Prop where
  | sc {v : Value} : free v = true → RD H Z (.sc v) v
  | nil {z : Nat} : RD H Z (.sl z 0 []) (.slice none 0 0)
  | sl {b o n c z : Nat} {cs : List DV} {vs : List Value} {st : St} : Z b → H[b]? = some (.cells vs st) → (st = .ro ∨ st = .rw z) → z ≠ 0 → n ≤ c → cs.length = n * z → o + cs.length ≤ vs.length →
      (∀ (i : Nat) x v, cs[i]? = some x → vs[o + i]? = some v → RD H Z x v) → RD H Z (.sl z n cs) (.slice (some ⟨b, o, none⟩) n c)
  | ag {cs : List DV} {vs : List Value} : cs.length = vs.length → (∀ (i : Nat) x v, cs[i]? = some x → vs[i]? = some v → RD H Z x v) → RD H Z (.ag cs) (.agg ⟨vs⟩)
  | ifc {t : TypeId} {d : DV} {v : Value} : RD H Z d v → RD H Z (.ifc t d) (.iface t v)

inductive RV (H : AHeap) (Z : Nat → Prop) (B : Blks) : PV → Value → Prop where
  | bad {v : Value} : RV H Z B .bad v
  | dv {d : DV} {v : Value} : RD H Z d v → RV H Z B (.dv d) v
  | ow {k off n b o c : Nat} : B[k]? = some (some (b, o)) → n ≤ c → RV H Z B (.ow k off n) (.slice (some ⟨b, o + off, none⟩) n c)
  | ow0 {k : Nat} : B[k]? = some none → RV H Z B (.ow k 0 0) (.slice none 0 0)
  | pt {k off b o : Nat} : B[k]? = some (some (b, o)) → RV H Z B (.pt k off) (.pointer (some ⟨b, o + off, none⟩))
  | ld {b o : Nat} {cs : List DV} {vs : List Value} {st : St} : Z b → H[b]? = some (.cells vs st) → st ≠ .dead → o + cs.length ≤ vs.length →
      (∀ (i : Nat) x v, cs[i]? = some x → vs[o + i]? = some v → RD H Z x v) → RV H Z B (.ld cs) (.pointer (some ⟨b, o, none⟩))
  | ag {cs : List PV} {vs : List Value} : cs.length = vs.length → (∀ (i : Nat) x v, cs[i]? = some x → vs[i]? = some v → RV H Z B x v) → RV H Z B (.ag cs) (.agg ⟨vs⟩)
  | tup {cs : List PV} {vs : List Value} : cs.length = vs.length → (∀ (i : Nat) x v, cs[i]? = some x → vs[i]? = some v → RV H Z B x v) → RV H Z B (.tup cs) (.tuple ⟨vs⟩)
  | fn {f : FuncId} {as bs : List PV} {us vs : List Value} : as.length = us.length → bs.length = vs.length → (∀ (i : Nat) x v, as[i]? = some x → us[i]? = some v → RV H Z B x v) →
      (∀ (i : Nat) x v, bs[i]? = some x → vs[i]? = some v → RV H Z B x v) → RV H Z B (.fn f as bs) (.func (.func f) ⟨us⟩ ⟨vs⟩)
  | ifc {t : TypeId} {x : PV} {v : Value} : RV H Z B x v → RV H Z B (.ifc t x) (.iface t v)

/-- What was known of memory is known of it still. -/
structure Ex (H : AHeap) (Z : Nat → Prop) (B : Blks) (H' : AHeap) (Z' : Nat → Prop) (B' : Blks) : Prop where
  zone : ∀ b c st, Z b → H[b]? = some (.cells c st) → Z' b ∧ H'[b]? = some (.cells c st)
  bt : ∀ (k : Nat) y, B[k]? = some y → B'[k]? = some y

theorem lt_of_get {H : AHeap} {b : Nat} {o : AObj} (h : H[b]? = some o) : b < H.size := (Array.getElem?_eq_some_iff.1 h).1

section
variable {H H' : AHeap} {Z Z' : Nat → Prop} {B B' : Blks}

theorem Ex.refl : Ex H Z B H Z B := ⟨fun _ _ _ h k => ⟨h, k⟩, fun _ _ h => h⟩

theorem RD.mono (h : ∀ b c st, Z b → H[b]? = some (.cells c st) → Z' b ∧ H'[b]? = some (.cells c st)) {d : DV} {v : Value} (hd : RD H Z d v) : RD H' Z' d v := by
  induction hd with
  | sc hf => exact .sc hf
  | nil => exact .nil
  | sl h1 h2 h3 h4 h5 h6 h7 _ ih =>
    have := h _ _ _ h1 h2
    exact .sl this.1 this.2 h3 h4 h5 h6 h7 ih
  | ag h1 _ ih => exact .ag h1 ih
  | ifc _ ih => exact .ifc ih

theorem RV.mono (h : Ex H Z B H' Z' B') {x : PV} {v : Value} (hx : RV H Z B x v) : RV H' Z' B' x v := by
  induction hx with
  | bad => exact .bad
  | dv hd => exact .dv (hd.mono h.zone)
  | ow h1 h2 => exact .ow (h.bt _ _ h1) h2
  | ow0 h1 => exact .ow0 (h.bt _ _ h1)
  | pt h1 => exact .pt (h.bt _ _ h1)
  | ld h1 h2 h3 h4 h5 =>
    have := h.zone _ _ _ h1 h2
    exact .ld this.1 this.2 h3 h4 fun i x v hx hv => (h5 i x v hx hv).mono h.zone
  | ag h1 _ ih => exact .ag h1 ih
  | tup h1 _ ih => exact .tup h1 ih
  | fn h1 h2 _ _ ih1 ih2 => exact .fn h1 h2 ih1 ih2
  | ifc _ ih => exact .ifc ih
end

/-- Cells of data, in a block's cells from o on. -/
def RDs (H : AHeap) (Z : Nat → Prop) (cs : List DV) (vs : List Value) (o : Nat) : Prop :=
  o + cs.length ≤ vs.length ∧ ∀ (i : Nat) x v, cs[i]? = some x → vs[o + i]? = some v → RD H Z x v

def RVs (H : AHeap) (Z : Nat → Prop) (B : Blks) (cs : List PV) (vs : List Value) (o : Nat) : Prop :=
  o + cs.length ≤ vs.length ∧ ∀ (i : Nat) x v, cs[i]? = some x → vs[o + i]? = some v → RV H Z B x v

def OkOb (H : AHeap) (Z : Nat → Prop) (B : Blks) (k : Nat) : Ob → Prop
  | .gone => True
  | .row z cs => (∃ b o vs, B[k]? = some (some (b, o)) ∧ H[b]? = some (.cells vs (.rw z)) ∧ z ≠ 0 ∧ RDs H Z cs vs o) ∨ (B[k]? = some none ∧ cs = [])
  | .fro z cs => (∃ b o vs st, B[k]? = some (some (b, o)) ∧ Z b ∧ H[b]? = some (.cells vs st) ∧ (st = .ro ∨ st = .rw z) ∧ z ≠ 0 ∧ RDs H Z cs vs o) ∨ (B[k]? = some none ∧ cs = [])
  | .var cs => ∃ b o vs, B[k]? = some (some (b, o)) ∧ H[b]? = some (.cells vs (.rw 0)) ∧ RVs H Z B cs vs o
  | .itr s pos => ∃ b, B[k]? = some (some (b, 0)) ∧ H[b]? = some (.iter s pos)

theorem RDs.mono {H H' : AHeap} {Z Z' : Nat → Prop} (h : ∀ b c st, Z b → H[b]? = some (.cells c st) → Z' b ∧ H'[b]? = some (.cells c st)) {cs : List DV} {vs : List Value} {o : Nat} (k : RDs H Z cs vs o) : RDs H' Z' cs vs o :=
  ⟨k.1, fun i x v hx hv => (k.2 i x v hx hv).mono h⟩
theorem RVs.mono {H H' : AHeap} {Z Z' : Nat → Prop} {B B' : Blks} (h : Ex H Z B H' Z' B') {cs : List PV} {vs : List Value} {o : Nat} (k : RVs H Z B cs vs o) : RVs H' Z' B' cs vs o :=
  ⟨k.1, fun i x v hx hv => (k.2 i x v hx hv).mono h⟩

theorem OkOb.mono {H H' : AHeap} {Z Z' : Nat → Prop} {B B' : Blks} (h : Ex H Z B H' Z' B') {k : Nat} {ob : Ob} (hb : ob.live = true → ∀ b o, B[k]? = some (some (b, o)) → H'[b]? = H[b]?) (hk : OkOb H Z B k ob) : OkOb H' Z' B' k ob := by
  cases ob with
  | gone => trivial
  | row z cs =>
    rcases hk with ⟨b, o, vs, h1, h2, h3, h4⟩ | ⟨h1, h2⟩
    · exact .inl ⟨b, o, vs, h.bt _ _ h1, (hb rfl b o h1).trans h2, h3, h4.mono h.zone⟩
    · exact .inr ⟨h.bt _ _ h1, h2⟩
  | fro z cs =>
    rcases hk with ⟨b, o, vs, st, h1, h2, h3, h4, h5, h6⟩ | ⟨h1, h2⟩
    · have := h.zone b _ _ h2 h3
      exact .inl ⟨b, o, vs, st, h.bt _ _ h1, this.1, this.2, h4, h5, h6.mono h.zone⟩
    · exact .inr ⟨h.bt _ _ h1, h2⟩
  | var cs =>
    obtain ⟨b, o, vs, h1, h2, h3⟩ := hk
    exact ⟨b, o, vs, h.bt _ _ h1, (hb rfl b o h1).trans h2, h3.mono h⟩
  | itr s pos =>
    obtain ⟨b, h1, h2⟩ := hk
    exact ⟨b, h.bt _ _ h1, (hb rfl b 0 h1).trans h2⟩

/-- A frame's state: how many slots; how many objects were handed to it; what the known slots hold; the objects. -/
structure PS where
  nt : Nat
  m : Nat
  tm : List (Nat × PV)
  ob : List Ob

/-- What a frame began with: the heap; the blocks that were handed to it to be written; those that may be read. -/
structure Fr where
  N : Nat
  H0 : AHeap
  X : Nat → Prop
  Z0 : Nat → Prop
  D : List Nat
  B0 : Blks

def Live (ob : List Ob) (k : Nat) : Prop := ∃ o, ob[k]? = some o ∧ o.live = true

structure StB (F : Fr) (p : PS) (s : ASt) (B : Blks) (Z : Nat → Prop) : Prop where
  tm : ∀ i x, p.tm.lookup i = some x → ∃ v, s.tmps[i]? = some v ∧ RV s.H Z B x v
  nt : s.tmps.length = p.nt
  bl : B.length = p.ob.length
  ob : ∀ k o, p.ob[k]? = some o → OkOb s.H Z B k o
  inj : ∀ j k b o1 o2, Live p.ob j → Live p.ob k → B[j]? = some (some (b, o1)) → B[k]? = some (some (b, o2)) → j = k
  lz : ∀ k b o, Live p.ob k → B[k]? = some (some (b, o)) → ¬ Z b ∧ (F.X b ∨ F.N ≤ b)
  zz : ∀ b, Z b → F.Z0 b ∨ F.X b ∨ F.N ≤ b
  old : ∀ b, b < F.N → ¬ F.X b → s.H[b]? = F.H0[b]?
  sz : F.N ≤ s.H.size
  dfs : s.dfs = F.D
  bm : F.B0.length = p.m
  b0 : ∃ C, B = F.B0 ++ C

def PSt (F : Fr) (p : PS) (s : ASt) : Prop := ∃ B Z, StB F p s B Z

section
variable {F : Fr} {p : PS} {s : ASt} {B : Blks} {Z : Nat → Prop}

theorem StB.blk (h : StB F p s B Z) {k : Nat} (hk : Live p.ob k) {b o : Nat} (hb : B[k]? = some (some (b, o))) : b < s.H.size := by
  obtain ⟨ob, h1, h2⟩ := hk
  have := h.ob k ob h1
  cases ob with
  | gone => cases h2
  | fro z cs => cases h2
  | row z cs =>
    rcases this with ⟨b', o', vs, e1, e2, _⟩ | ⟨e1, _⟩
    · rw [hb] at e1; cases e1; exact lt_of_get e2
    · rw [hb] at e1; cases e1
  | var cs =>
    obtain ⟨b', o', vs, e1, e2, _⟩ := this
    rw [hb] at e1; cases e1; exact lt_of_get e2
  | itr s pos =>
    obtain ⟨b', e1, e2⟩ := this
    rw [hb] at e1; cases e1; exact lt_of_get e2

/-- The slots change: what is known of them is right. -/
theorem StB.slots (h : StB F p s B Z) {tmps : List Value} {tm : List (Nat × PV)} (hl : tmps.length = p.nt) (ht : ∀ i x, tm.lookup i = some x → ∃ v, tmps[i]? = some v ∧ RV s.H Z B x v) :
    StB F { p with tm } { s with tmps } B Z :=
  { h with tm := ht, nt := hl }

/-- A slot is set. -/
theorem StB.put (h : StB F p s B Z) {d : Nat} {x : PV} {v : Value} (hd : d < p.nt) (hx : RV s.H Z B x v) : StB F { p with tm := (d, x) :: p.tm } { s with tmps := s.tmps.set d v } B Z := by
  refine h.slots (by simp [h.nt]) fun i y hy => ?_
  simp only [List.lookup_cons] at hy
  split at hy
  · rename_i hi
    simp only [beq_iff_eq] at hi
    subst hi
    cases hy
    exact ⟨v, by simp [h.nt, hd], hx⟩
  · rename_i hi
    simp only [beq_eq_false_iff_ne, ne_eq] at hi
    obtain ⟨w, h1, h2⟩ := h.tm i y hy
    exact ⟨w, by rw [List.getElem?_set_ne (Ne.symm hi)]; exact h1, h2⟩

/-- Memory changes where nothing is known of it, and grows. -/
theorem StB.junk (h : StB F p s B Z) {H' : AHeap} (hs : s.H.size ≤ H'.size) (hk : ∀ b, b < s.H.size → H'[b]? ≠ s.H[b]? → ¬ Z b ∧ (F.X b ∨ F.N ≤ b) ∧ ∀ k o, Live p.ob k → B[k]? ≠ some (some (b, o))) :
    StB F p { s with H := H' } B Z := by
  have hex : Ex s.H Z B H' Z B := ⟨fun b c st hz hb => ⟨hz, (Classical.byContradiction fun hne => (hk b (lt_of_get hb) hne).1 hz : H'[b]? = s.H[b]?).trans hb⟩, fun _ _ h => h⟩
  refine { h with tm := fun i x hx => ?_, ob := fun k o ho => ?_, old := fun b hb hx => ?_, sz := Nat.le_trans h.sz hs }
  · obtain ⟨v, h1, h2⟩ := h.tm i x hx
    exact ⟨v, h1, h2.mono hex⟩
  · refine (h.ob k o ho).mono hex fun hl b oo hb => Classical.byContradiction fun hne => ?_
    have hlive : Live p.ob k := ⟨o, ho, hl⟩
    exact (hk b (h.blk hlive hb) hne).2.2 k oo hlive hb
  · have hbs : b < s.H.size := Nat.lt_of_lt_of_le hb h.sz
    refine (Classical.byContradiction fun hne => ?_ : H'[b]? = s.H[b]?).trans (h.old b hb hx)
    rcases (hk b hbs hne).2.1 with h1 | h1
    · exact hx h1
    · omega

theorem live_set {ob : List Ob} {k j : Nat} {o : Ob} (h : Live (ob.set k o) j) : (j = k ∧ o.live = true) ∨ (j ≠ k ∧ Live ob j) := by
  obtain ⟨o', h1, h2⟩ := h
  by_cases hj : j = k
  · subst hj
    rw [List.getElem?_set] at h1
    simp only [if_true] at h1
    split at h1
    · cases h1; exact .inl ⟨rfl, h2⟩
    · cases h1
  · rw [List.getElem?_set_ne (Ne.symm hj)] at h1
    exact .inr ⟨hj, o', h1, h2⟩

/-- An object becomes another. -/
theorem StB.setOb (h : StB F p s B Z) {k : Nat} {o : Ob} (ho : OkOb s.H Z B k o)
    (hl : o.live = true → ∀ b oo, B[k]? = some (some (b, oo)) → ¬ Z b ∧ (F.X b ∨ F.N ≤ b) ∧ ∀ j o2, j ≠ k → Live p.ob j → B[j]? ≠ some (some (b, o2))) : StB F { p with ob := p.ob.set k o } s B Z := by
  refine { h with bl := by simp [h.bl], ob := fun j o' hj => ?_, inj := fun i j b o1 o2 hi hj h1 h2 => ?_, lz := fun j b oo hj hb => ?_ }
  · by_cases hjk : j = k
    · subst hjk
      simp only [List.getElem?_set, if_true] at hj
      split at hj
      · cases hj; exact ho
      · cases hj
    · simp only [List.getElem?_set_ne (Ne.symm hjk)] at hj
      exact h.ob j o' hj
  · rcases live_set hi with ⟨rfl, hi'⟩ | ⟨hi', hi2⟩
    · rcases live_set hj with ⟨rfl, hj'⟩ | ⟨hj', hj2⟩
      · rfl
      · exact absurd h2 ((hl hi' b o1 h1).2.2 j o2 hj' hj2)
    · rcases live_set hj with ⟨rfl, hj'⟩ | ⟨hj', hj2⟩
      · exact absurd h1 ((hl hj' b o2 h2).2.2 i o1 hi' hi2)
      · exact h.inj i j b o1 o2 hi2 hj2 h1 h2
  · rcases live_set hj with ⟨rfl, hj'⟩ | ⟨hj', hj2⟩
    · have := hl hj' b oo hb
      exact ⟨this.1, this.2.1⟩
    · exact h.lz j b oo hj2 hb

theorem StB.drop (h : StB F p s B Z) (k : Nat) : StB F { p with ob := p.ob.set k .gone } s B Z := h.setOb trivial (fun h => by cases h)

theorem append_some {α : Type} {l m : List α} {k : Nat} {y : α} (h : l[k]? = some y) : (l ++ m)[k]? = some y := by
  rw [List.getElem?_append_left (List.getElem?_eq_some_iff.1 h).1]; exact h

theorem Ex.app (C : Blks) {H : AHeap} : Ex H Z B H Z (B ++ C) := ⟨fun _ _ _ h k => ⟨h, k⟩, fun _ _ h => append_some h⟩

/-- One object more. -/
theorem StB.addOb (h : StB F p s B Z) {o : Ob} {y : Option (Nat × Nat)} (ho : OkOb s.H Z (B ++ [y]) p.ob.length o)
    (hl : o.live = true → ∀ b oo, y = some (b, oo) → ¬ Z b ∧ (F.X b ∨ F.N ≤ b) ∧ ∀ j o2, Live p.ob j → B[j]? ≠ some (some (b, o2))) : StB F { p with ob := p.ob ++ [o] } s (B ++ [y]) Z := by
  have hlast : (B ++ [y])[p.ob.length]? = some y := by rw [← h.bl]; simp
  have hlive : ∀ j, Live (p.ob ++ [o]) j → (j = p.ob.length ∧ o.live = true) ∨ Live p.ob j := by
    rintro j ⟨o', h1, h2⟩
    by_cases hj : j < p.ob.length
    · rw [List.getElem?_append_left hj] at h1; exact .inr ⟨o', h1, h2⟩
    · have := (List.getElem?_eq_some_iff.1 h1).1
      simp only [List.length_append, List.length_cons, List.length_nil] at this
      obtain rfl : j = p.ob.length := by omega
      rw [List.getElem?_append_right (Nat.le_refl _), Nat.sub_self] at h1
      simp only [List.getElem?_cons_zero, Option.some.injEq] at h1
      subst h1
      exact .inl ⟨rfl, h2⟩
  have hold : ∀ j, Live p.ob j → (B ++ [y])[j]? = B[j]? := by
    rintro j ⟨o', h1, _⟩
    rw [List.getElem?_append_left]
    rw [h.bl]
    exact (List.getElem?_eq_some_iff.1 h1).1
  refine { h with tm := fun i x hx => ?_, bl := by simp [h.bl], ob := fun j o' hj => ?_, inj := fun i j b o1 o2 hi hj h1 h2 => ?_, lz := fun j b oo hj hb => ?_, b0 := let ⟨C, hC⟩ := h.b0; ⟨C ++ [y], by rw [hC, List.append_assoc]⟩ }
  · obtain ⟨v, h1, h2⟩ := h.tm i x hx
    exact ⟨v, h1, h2.mono (Ex.app _)⟩
  · by_cases hj2 : j < p.ob.length
    · rw [List.getElem?_append_left hj2] at hj
      exact (h.ob j o' hj).mono (Ex.app _) fun _ _ _ _ => rfl
    · have := (List.getElem?_eq_some_iff.1 hj).1
      simp only [List.length_append, List.length_cons, List.length_nil] at this
      obtain rfl : j = p.ob.length := by omega
      rw [List.getElem?_append_right (Nat.le_refl _), Nat.sub_self] at hj
      simp only [List.getElem?_cons_zero, Option.some.injEq] at hj
      subst hj
      exact ho
  · rcases hlive i hi with ⟨rfl, hi'⟩ | hi
    · rw [hlast] at h1
      cases h1
      rcases hlive j hj with ⟨rfl, hj'⟩ | hj
      · rfl
      · rw [hold j hj] at h2
        exact absurd h2 ((hl hi' b o1 rfl).2.2 j o2 hj)
    · rcases hlive j hj with ⟨rfl, hj'⟩ | hj
      · rw [hlast] at h2
        cases h2
        rw [hold i hi] at h1
        exact absurd h1 ((hl hj' b o2 rfl).2.2 i o1 hi)
      · rw [hold i hi] at h1
        rw [hold j hj] at h2
        exact h.inj i j b o1 o2 hi hj h1 h2
  · rcases hlive j hj with ⟨rfl, hj'⟩ | hj
    · rw [hlast] at hb
      cases hb
      have := hl hj' b oo rfl
      exact ⟨this.1, this.2.1⟩
    · rw [hold j hj] at hb
      exact h.lz j b oo hj hb

/-- A row is written no more. -/
theorem StB.freeze (h : StB F p s B Z) {k z : Nat} {cs : List DV} (hk : p.ob[k]? = some (.row z cs)) :
    ∃ Z', StB F { p with ob := p.ob.set k (.fro z cs) } s B Z' ∧ (∀ b, Z b → Z' b) := by
  have hok := h.ob k _ hk
  have hlk : Live p.ob k := ⟨_, hk, rfl⟩
  rcases hok with ⟨b, o, vs, h1, h2, h3, h4⟩ | ⟨h1, h2⟩
  · have hz := h.lz k b o hlk h1
    have hex : Ex s.H Z B s.H (fun c => Z c ∨ c = b) B := ⟨fun _ _ _ h k => ⟨.inl h, k⟩, fun _ _ h => h⟩
    refine ⟨fun c => Z c ∨ c = b, ?_, fun _ h => .inl h⟩
    refine { h with bl := by simp [h.bl], tm := fun i x hx => ?_, ob := fun j o' hj => ?_, inj := fun i j c o1 o2 hi hj e1 e2 => ?_, lz := fun j c oo hj hb => ?_, zz := fun c hc => ?_ }
    · obtain ⟨v, e1, e2⟩ := h.tm i x hx
      exact ⟨v, e1, e2.mono hex⟩
    · by_cases hjk : j = k
      · subst hjk
        simp only [List.getElem?_set, if_true] at hj
        split at hj
        · cases hj
          exact .inl ⟨b, o, vs, _, h1, .inr rfl, h2, .inr rfl, h3, h4.mono hex.zone⟩
        · cases hj
      · simp only [List.getElem?_set_ne (Ne.symm hjk)] at hj
        exact (h.ob j o' hj).mono hex fun _ _ _ _ => rfl
    · rcases live_set hi with ⟨_, hi⟩ | ⟨hi, hi2⟩
      · cases hi
      · rcases live_set hj with ⟨_, hj⟩ | ⟨hj, hj2⟩
        · cases hj
        · exact h.inj i j c o1 o2 hi2 hj2 e1 e2
    · rcases live_set hj with ⟨_, hj⟩ | ⟨hj, hj2⟩
      · cases hj
      · have := h.lz j c oo hj2 hb
        refine ⟨?_, this.2⟩
        rintro (hc | rfl)
        · exact this.1 hc
        · exact hj (h.inj j k c oo o hj2 hlk hb h1)
    · rcases hc with hc | rfl
      · exact h.zz c hc
      · exact .inr hz.2
  · subst h2
    exact ⟨Z, h.setOb (.inr ⟨h1, rfl⟩) (fun h => by cases h), fun _ h => h⟩

/-- A block that holds no cells is none that may be read. -/
theorem StB.unzone (h : StB F p s B Z) {id : Nat} (hid : ∀ c st, s.H[id]? ≠ some (.cells c st)) : StB F p s B (fun b => Z b ∧ b ≠ id) := by
  have hex : Ex s.H Z B s.H (fun b => Z b ∧ b ≠ id) B := ⟨fun b c st hz hb => ⟨⟨hz, by rintro rfl; exact hid _ _ hb⟩, hb⟩, fun _ _ h => h⟩
  refine { h with tm := fun i x hx => ?_, ob := fun k o ho => ?_, lz := fun k b o hk hb => ?_, zz := fun b hb => h.zz b hb.1 }
  · obtain ⟨v, h1, h2⟩ := h.tm i x hx
    exact ⟨v, h1, h2.mono hex⟩
  · exact (h.ob k o ho).mono hex fun _ _ _ _ => rfl
  · have := h.lz k b o hk hb
    exact ⟨fun hz => this.1 hz.1, this.2⟩
end
end Go.Eng

namespace Go.Eng
open Go

-- ---------------------------------------------------------------- with more known, the same
theorem mapOpt_mono {α β : Type} {f g : α → Option β} (h : ∀ x y, f x = some y → g x = some y) : ∀ {l : List α} {r : List β}, mapOpt f l = some r → mapOpt g l = some r
  | [], r, k => k
  | x :: xs, r, k => by
    simp only [mapOpt] at k ⊢
    cases hx : f x with
    | none => simp [hx] at k
    | some y =>
      cases hxs : mapOpt f xs with
      | none => simp [hx, hxs] at k
      | some ys =>
        rw [hx, hxs] at k
        rw [h x y hx, mapOpt_mono h hxs]
        exact k

theorem partsOf_mono {f g : Operand → Option Value} (h : ∀ x y, f x = some y → g x = some y) : ∀ {l : List (Nat × Operand)} {r : List (Nat × Value)}, partsOf f l = some r → partsOf g l = some r
  | [], r, k => k
  | (i, x) :: xs, r, k => by
    simp only [partsOf] at k ⊢
    cases hx : f x with
    | none => simp [hx] at k
    | some y =>
      cases hxs : partsOf f xs with
      | none => simp [hx, hxs] at k
      | some ys =>
        rw [hx, hxs] at k
        rw [h x y hx, partsOf_mono h hxs]
        exact k

/-- The scalar that an operand holds. -/
def scOf (g : Operand → Option PV) (x : Operand) : Option Value :=
  match g x with
  | some (.dv (.sc v)) => some v
  | _ => none

theorem cells?_empty (a : Addr) (n : Nat) : AHeap.cells? #[] a n = none := by simp [AHeap.cells?]
theorem cell?_empty (a : Addr) : AHeap.cell? #[] a = none := by simp [AHeap.cell?]
theorem aload_empty (P : Program) (t : TypeId) (a : Addr) : aload P #[] t a = none := by
  unfold aload
  split <;> simp [cells?_empty, cell?_empty]
theorem slOk_empty (P : Program) (H : AHeap) (t : TypeId) (a : Option Addr) (h : slOk P #[] t a = true) : slOk P H t a = true := by
  cases a with
  | none => rfl
  | some a => simp [slOk, stOf] at h

theorem optmap_mono {f g : Operand → Option Value} (h : ∀ x y, f x = some y → g x = some y) (lo : Option Operand) : okArg (lo.map f) = true → lo.map g = lo.map f := by
  cases lo with
  | none => intro _; rfl
  | some x =>
    intro hk
    cases hx : f x with
    | none => simp [okArg, hx] at hk
    | some y => simp [hx, h x y hx]

theorem bound_ok {n d : Nat} {o : Option (Option Value)} {r : Nat} (h : bound n d o = some r) : okArg o = true := by
  cases o with
  | none => rfl
  | some o => cases o with
    | none => simp [bound] at h
    | some v => rfl

/-- What needs no memory needs none however much there is. -/
theorem alight_mono {P : Program} {ρ ρ' : Operand → Option Value} {H : AHeap} {o : Oper} {v : Value} (h : ∀ x y, ρ' x = some y → ρ x = some y) (hv : alight P ρ' #[] o = some v) : alight P ρ H o = some v := by
  obtain ⟨dst, op, type, pos, after, guard⟩ := o
  cases op with
  | move x => exact h _ _ hv
  | assign x => exact h _ _ hv
  | pick c a b =>
    simp only [alight] at hv ⊢
    split at hv
    · rename_i hc ha hb
      rw [h _ _ hc, h _ _ ha, h _ _ hb]; exact hv
    · cases hv
  | load t a =>
    simp only [alight] at hv
    split at hv
    · simp [aload_empty] at hv
    · cases hv
  | nilCheck x =>
    simp only [alight] at hv ⊢
    cases hx : ρ' x with
    | none => simp [hx] at hv
    | some y => rw [hx] at hv; rw [h _ _ hx]; exact hv
  | binOp op t x y t2 =>
    simp only [alight] at hv ⊢
    cases hx : ρ' x with
    | none => simp [hx] at hv
    | some a => cases hy : ρ' y with
      | none => simp [hx, hy] at hv
      | some b => rw [hx, hy] at hv; rw [h _ _ hx, h _ _ hy]; exact hv
  | unOp op t x =>
    simp only [alight] at hv ⊢
    cases hx : ρ' x with
    | none => simp [hx] at hv
    | some y => rw [hx] at hv; rw [h _ _ hx]; exact hv
  | convert s d x =>
    simp only [alight] at hv ⊢
    cases hx : ρ' x with
    | none => simp [hx] at hv
    | some y =>
      rw [hx] at hv; rw [h _ _ hx]
      cases y with
      | slice a n c =>
        simp only at hv ⊢
        split at hv
        · split at hv
          · simp [cells?_empty] at hv
          · simp_all
          · cases hv
        · cases hv
      | _ => exact hv
  | makeInterface t x =>
    simp only [alight] at hv ⊢
    split at hv
    · cases hv
    · rename_i hne _ hu
      cases hx : ρ' x with
      | none => simp [hx] at hv
      | some y =>
        rw [hx] at hv
        rw [h _ _ hx]
        exact hv
    · cases hv
  | makeFunc f first cap =>
    cases f with
    | func f =>
      simp only [alight] at hv ⊢
      cases ha : mapOpt ρ' first.toList with
      | none => simp [ha] at hv
      | some a => cases hb : mapOpt ρ' cap.toList with
        | none => simp [ha, hb] at hv
        | some b => rw [ha, hb] at hv; rw [mapOpt_mono h ha, mapOpt_mono h hb]; exact hv
    | _ => simp [alight] at hv
  | slice t x lo hi mx =>
    simp only [alight] at hv ⊢
    cases hx : ρ' x with
    | none => simp [hx] at hv
    | some y =>
      rw [hx] at hv; rw [h _ _ hx]
      cases y with
      | slice a n c =>
        simp only at hv ⊢
        split at hv
        · rename_i hs
          rw [if_pos (slOk_empty P H t a hs)]
          have hl : okArg (lo.map ρ') = true ∧ okArg (hi.map ρ') = true ∧ okArg (mx.map ρ') = true := by
            unfold aslice at hv
            split at hv
            · cases hv
            · rename_i m hm
              split at hv
              · cases hv
              · rename_i hh hh2
                split at hv
                · cases hv
                · rename_i l hl
                  refine ⟨bound_ok hl, ?_, bound_ok hm⟩
                  revert hh2
                  cases mx <;> cases hi <;> intro hh2 <;> first | rfl | exact bound_ok hh2
          rw [optmap_mono h lo hl.1, optmap_mono h hi hl.2.1, optmap_mono h mx hl.2.2]
          exact hv
        · cases hv
      | string s =>
        simp only at hv ⊢
        split at hv
        · rename_i hs
          simp only [Bool.and_eq_true] at hs
          have e1 := optmap_mono h lo hs.1.1.1.1.1
          have e2 := optmap_mono h hi hs.1.1.1.1.2
          have e3 := optmap_mono h mx hs.1.1.1.2
          have b : ∀ (l : Option Operand), okArg (l.map ρ') = true → l.bind ρ = l.bind ρ' := by
            intro l hl
            cases l with
            | none => rfl
            | some x =>
              simp only [Option.map_some] at hl
              cases hx : ρ' x with
              | none => simp [okArg, hx] at hl
              | some y => simp [hx, h _ _ hx]
          rw [e1, e2, e3, b lo hs.1.1.1.1.1, b hi hs.1.1.1.1.2, b mx hs.1.1.1.2, if_pos (by simp only [Bool.and_eq_true]; exact hs)]
          exact hv
        · cases hv
      | pointer a =>
        cases a with
        | none => cases hv
        | some a =>
          simp only [stOf] at hv
          split at hv
          · split at hv
            · cases hv
            · split at hv
              · cases hv
              · split at hv
                · cases hv
                · cases hz : sizeT P _ <;> simp [hz] at hv
          · cases hv
      | _ => cases hv
  | fieldAddr t x f =>
    simp only [alight] at hv ⊢
    cases hx : ρ' x with
    | none => simp [hx] at hv
    | some y => rw [hx] at hv; rw [h _ _ hx]; exact hv
  | field t x f =>
    simp only [alight] at hv ⊢
    cases hx : ρ' x with
    | none => simp [hx] at hv
    | some y => rw [hx] at hv; rw [h _ _ hx]; exact hv
  | indexAddr t x i =>
    simp only [alight] at hv ⊢
    cases hx : ρ' x with
    | none => simp [hx] at hv
    | some a => cases hy : ρ' i with
      | none => simp [hx, hy] at hv
      | some b => rw [hx, hy] at hv; rw [h _ _ hx, h _ _ hy]; exact hv
  | index t x i =>
    simp only [alight] at hv ⊢
    cases hx : ρ' x with
    | none => simp [hx] at hv
    | some a => cases hy : ρ' i with
      | none => simp [hx, hy] at hv
      | some b => rw [hx, hy] at hv; rw [h _ _ hx, h _ _ hy]; exact hv
  | typeAssert x t a ok =>
    simp only [alight] at hv ⊢
    cases hx : ρ' x with
    | none => simp [hx] at hv
    | some y => rw [hx] at hv; rw [h _ _ hx]; exact hv
  | extract x i =>
    simp only [alight] at hv ⊢
    cases hx : ρ' x with
    | none => simp [hx] at hv
    | some y => rw [hx] at hv; rw [h _ _ hx]; exact hv
  | build t parts =>
    simp only [alight] at hv ⊢
    cases hx : partsOf ρ' parts.toList with
    | none => simp [hx] at hv
    | some y => rw [hx] at hv; rw [partsOf_mono h hx]; exact hv
  | call c =>
    obtain ⟨callee, args, argTypes⟩ := c
    cases callee with
    | builtin b =>
      cases b with
      | len =>
        simp only [alight] at hv ⊢
        cases hx : mapOpt ρ' args.toList with
        | none => simp [hx] at hv
        | some y => rw [hx] at hv; rw [mapOpt_mono h hx]; exact hv
      | min =>
        simp only [alight] at hv ⊢
        cases hx : mapOpt ρ' args.toList with
        | none => simp [hx] at hv
        | some y => rw [hx] at hv; rw [mapOpt_mono h hx]; exact hv
      | max =>
        simp only [alight] at hv ⊢
        cases hx : mapOpt ρ' args.toList with
        | none => simp [hx] at hv
        | some y => rw [hx] at hv; rw [mapOpt_mono h hx]; exact hv
      | _ => cases hv
    | _ => cases hv
  | _ => cases hv
end Go.Eng
