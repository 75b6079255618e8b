/- The law OrderComms of layer 16 (order) answers true: WHERE WHAT IT READS HOLDS AT MOST 1048576 VALUES AND LETTERS; the listed package-level variables are tied to the program's text. -/
import Derived.Test.YtinipmoepcgonaaDoorWalkB
import Derived.Test.YtinipmoepcgonaaDoorEngE
import Derived.Test.YtinipmoepcgonaaDoorCards
import Derived.Test.YtinipmoepcgonaaDoorTie
import Derived.WalkKit
import Derived.ProofKit
import Derived.OpenShut
import Derived.Deep.DeepHandedRow
import Derived.Lib.LaidTab
set_option linter.unusedSimpArgs false
set_option linter.unusedVariables false
namespace Go.Proofs.YtinipmoepcgonaaDoor.orderComms
open Go.ChangeShapes Go.WideShapes Go.ChangeAt Go.RowKit Go.Eng

mutual
theorem bulk_eq {H : Type} : ∀ d : DataW H, bulkW d ≤ Rows.uptoBulk d
  | .lit (.string s) => by simp [bulkW, Rows.uptoBulk]
  | .lit (.bool _) => by simp [bulkW, Rows.uptoBulk]
  | .lit (.int _ _) => by simp [bulkW, Rows.uptoBulk]
  | .lit (.float _ _) => by simp [bulkW, Rows.uptoBulk]
  | .lit .nil => by simp [bulkW, Rows.uptoBulk]
  | .nil => by simp [bulkW, Rows.uptoBulk]
  | .ptr d => by
    have h1 := bulk_eq d
    simp only [bulkW, Rows.uptoBulk]; omega
  | .slice a b => by
    have h1 := bulkAll_eq a
    have h2 := bulkAll_eq b
    simp only [bulkW, Rows.uptoBulk]; omega
  | .agg l => by
    have h1 := bulkAll_eq l
    simp only [bulkW, Rows.uptoBulk]; omega
  | .iface _ d => by
    have h1 := bulk_eq d
    simp only [bulkW, Rows.uptoBulk]; omega
  | .map _ => by simp [bulkW, Rows.uptoBulk]
  | .held _ => by simp [bulkW, Rows.uptoBulk]
theorem bulkAll_eq {H : Type} : ∀ l : List (DataW H), bulkAll l ≤ Rows.uptoBulkAll l
  | [] => Nat.le_refl _
  | d :: r => by
    have h1 := bulk_eq d
    have h2 := bulkAll_eq r
    simp only [bulkAll, Rows.uptoBulkAll]; omega
end

theorem own : ownKnob Tryd.prog.godebug = none := by kernel_rfl

set_option maxRecDepth 100000 in
theorem contract (H : Type) (enc : TypeId × Value → H) (W : World) (base : Nat) (args : Array Value) (ds gs : List (DataW H)) (before : List MemPlace)
    (hval : ∀ (j : Nat) t v, Tryd.f3.params[j]? = some t → args[j]? = some v → Value.okWide Tryd.prog W .any base t v)
    (hW : DataW.Whole enc Tryd.prog Tryd.f3.params.toList Rows.orderCommsSpec.vars false W args.toList ds gs before) (hL : laidMetH Tryd.prog Rows.orderCommsUptoRow.laid W) (hs : Rows.uptoSmall H (ds ++ gs) = true) :
    Calls Tryd.prog 3 args W fun e W' => ∃ v, e = .returned v ∧ Rows.orderCommsSpec.post enc Tryd.prog Tryd.f3 false true false false W args v W' := by
  have hV : gs = [] := by
    obtain ⟨q, r, hA, hV, _⟩ := hW
    cases gs with
    | nil => rfl
    | cons => simp [DataW.TrodVars, Rows.orderCommsSpec] at hV
  subst hV
  have hlen : ∃ a b c, ds = [a, b, c] := by
    obtain ⟨q, r, hA, _⟩ := hW
    rw [Tryd.params3] at hA
    have hA : DataW.TrodAll enc Tryd.prog W 0 (fun _ => true) true [22, 22, 3] args.toList ds q := hA
    obtain ⟨v0, vs0, d0, ds0, p0, q0, _, rfl, _, _, r0⟩ := trodAll_cons hA
    obtain ⟨v1, vs1, d1, ds1, p1, q1, _, rfl, _, _, r1⟩ := trodAll_cons r0
    obtain ⟨v2, vs2, d2, ds2, p2, q2, _, rfl, _, _, r2⟩ := trodAll_cons r1
    obtain ⟨_, rfl, _⟩ := trodAll_nil r2
    exact ⟨d0, d1, d2, rfl⟩
  have hbulk : bulkAll ds ≤ 1048576 := by
    have := bulkAll_eq ds
    rw [List.append_nil] at hs
    have := of_decide_eq_true hs
    omega
  have hcont := Go.Eng.contract (A := H) (enc := enc) (C := Go.Eng.R16.C) (p := 9) (N := 1048576) (tb := 4) Go.Eng.R16.ok rfl Tryd.func3 rfl (by kernel_rfl) (by kernel_rfl) rfl rfl Tryd.underlying4 (by kernel_rfl) hval hW (cells_of_laid hL)
    (by obtain ⟨a, b, c, rfl⟩ := hlen; rfl) hbulk fun G avs k hk ht => by
    have ht : TypedAll Tryd.prog G 9 [22, 22, 3] avs k := ht
    obtain ⟨x, avs1, acs1, k1, m1, rfl, hx, t1, ht1, hm1⟩ := typedAll_cons ht
    obtain ⟨y, avs2, acs2, k2, m2, rfl, hy, t2, ht2, hm2⟩ := typedAll_cons ht1
    obtain ⟨z, avs3, acs3, k3, m3, rfl, hz, t3, ht3, hm3⟩ := typedAll_cons ht2
    obtain rfl := typedAll_nil ht3
    obtain ⟨ls, u, rfl, hu, hul⟩ := typed_lines (n := 6) Tryd.underlying22 Tryd.underlying47 Tryd.underlying5 (by kernel_rfl) (by kernel_rfl) t1
    obtain ⟨ms, v, rfl, hv, hvl⟩ := typed_lines (n := 6) Tryd.underlying22 Tryd.underlying47 Tryd.underlying5 (by kernel_rfl) (by kernel_rfl) t2
    simp only [Typed, Tryd.underlying3] at t3
    obtain ⟨⟨h, rfl, _⟩, rfl⟩ := t3
    obtain rfl : x = u := hx
    obtain rfl : y = v := hy
    obtain rfl : z = .int .i64 h := hz
    have bound : ∀ (l : List (List UInt8)) (K : Nat), (l.map fun l => l.length + 1).sum + 1 ≤ K → l.length < K ∧ ∀ x ∈ l, x.length < K := by
        intro l
        induction l with
        | nil => intro K hK; exact ⟨by simp at hK ⊢; omega, fun x h => by simp at h⟩
        | cons a l ih =>
          intro K hK
          simp only [List.map_cons, List.sum_cons] at hK
          obtain ⟨h1, h2⟩ := ih (K - (a.length + 1)) (by omega)
          refine ⟨by simp only [List.length_cons]; omega, fun x hx => ?_⟩
          rcases List.mem_cons.1 hx with rfl | hx
          · omega
          · have := h2 x hx; omega
    obtain ⟨b1, b2⟩ := bound ls _ hul
    obtain ⟨b3, b4⟩ := bound ms _ hvl
    exact Go.Eng.R16.Q.law G x y h ls ms _ _ _ _ (Go.Eng.R16.Q.rdl_of hu) (Go.Eng.R16.Q.rdl_of hv) (by omega) (by omega) (fun l hl => by have := b2 l hl; omega) (fun l hl => by have := b4 l hl; omega)
  exact hcont

/-- A world for the witness: the settled one, the listed variables holding what they are to hold. -/
noncomputable def laidWorld (os : Os) : World :=
  { World.holding Tryd.prog os ⟨#[], #[], []⟩ with heap := layVars Tryd.prog Rows.orderCommsUptoRow.laid (World.holding Tryd.prog os ⟨#[], #[], []⟩).heap }
def wargs : Array Value := #[.slice none 0 0, .slice none 0 0, .int .i64 0]
set_option maxRecDepth 1000000 in
theorem laid_met (os : Os) : laidMet Tryd.prog Rows.orderCommsUptoRow.laid ((laidWorld os).forCall (fun _ _ => 0) ⟨#[], wargs, []⟩).memory :=
  laidMet_of_run' 8 (by kernel_rfl) (by kernel_rfl)
set_option maxRecDepth 1000000 in
theorem reads (os : Os) {H : Type} (enc : TypeId × Value → H) : ∃ places, DataW.whole enc Tryd.prog ((laidWorld os).forCall (fun _ _ => 0) ⟨#[], wargs, []⟩).memory Tryd.f3.params.toList Rows.orderCommsSpec.vars false wargs.toList 8 = some ([.nil, .nil, .lit (.int .i64 0)], [], places) :=
  ⟨[], by kernel_rfl⟩

set_option maxRecDepth 1000000 in
theorem liftedUpto (os : Os) (started : os.Started) (H : Type) (enc : TypeId × Value → H) (F : Stop.Interp) :
    ReturnsInHanded {} Tryd.checked os 3 .any ((Rows.OpenSpec.upto Rows.orderCommsSpec).preRow enc Tryd.prog Tryd.f3 Rows.orderCommsUptoRow.domain false Rows.orderCommsUptoRow.laid) (((Rows.OpenSpec.upto Rows.orderCommsSpec).at F).post enc Tryd.prog Tryd.f3 false true false false) := by
  obtain ⟨places, hx⟩ := reads os enc
  refine returnsInHanded_of_row (C := Tryd.checked) (s := Rows.OpenSpec.upto Rows.orderCommsSpec) own started (by kernel_rfl) Tryd.func3
    (witness_row_at (enc := enc) (C := Tryd.checked) false (laidWorld os) wargs rfl (by kernel_rfl) (by kernel_rfl) (by kernel_rfl)
      (OpenSpec.preRow_of_cond 8 hx (by kernel_rfl) (fun k hk => by cases hk; kernel_rfl) (by kernel_rfl) (laid_met os))) ?_
  intro W base args ds gs before hval hW a1 a2 a3 hL a4 a5
  exact contract H enc W base args ds gs before hval hW hL (by first | exact a1 _ rfl | exact a2 _ rfl | exact a3 _ rfl | exact a5 _ rfl)

set_option maxRecDepth 1000000 in
theorem saidUpto : Rows.OrderCommsUptoSaid :=
  OpenClaim.holds_of_cond 3 Tryd.f3 rfl rfl rfl rfl rfl rfl rfl ⟨rfl, rfl, rfl, rfl, rfl⟩ rfl rfl rfl rfl rfl (by kernel_rfl) Tryd.func3 (by kernel_rfl)
    (of_decide_eq_true (by kernel_rfl)) (by unfold Func.isWrapper; first | (rw [if_pos (by decide +kernel)]; kernel_rfl) | (rw [if_neg (by decide +kernel)]; exact ⟨rfl, rfl⟩))
    (fun os started H enc _ F => by rw [OpenClaim.pre_eq_preRow]; exact liftedUpto os started H enc F)

/-- No parameter wants a stand-in; the program's own looks are off. -/
theorem plain (f : FuncId) (fn : Func) (hf : Tryd.pinned.checked.prog.funcNamed "tinsel/tinsellaw16.OrderComms" = some f) (hfn : Tryd.pinned.checked.prog.funcs[f]? = some fn) :
    false = Tryd.pinned.checked.prog.looks [] ∧ ∀ (j : Nat) t, fn.params[j]? = some t → Tryd.pinned.checked.prog.wantsStandIn t = false := by
  obtain rfl : f = 3 := Option.some.inj ((show Tryd.prog.funcNamed "tinsel/tinsellaw16.OrderComms" = some 3 by kernel_rfl).symm.trans hf) |>.symm
  obtain rfl : fn = Tryd.f3 := (Option.some.inj (Tryd.func3.symm.trans hfn)).symm
  refine ⟨by kernel_rfl, fun j t ht => ?_⟩
  have hall : (Tryd.f3.params.all fun t => !Tryd.prog.wantsStandIn t) = true := by kernel_rfl
  rw [Array.all_eq_true_iff_forall_mem] at hall
  have := hall t (Array.mem_of_getElem? ht)
  simp only [Bool.not_eq_true'] at this
  exact this

set_option maxRecDepth 1000000 in
theorem cardUpto : Rows.OrderCommsUptoCardSaid :=
  Claim7.holds_tied_plain_at .later [] _ _ _ _ saidUpto (fun _ h => by cases h) (by kernel_rfl) (fun _ h => by cases h) orderCommsUpto_row_tie rfl ⟨rfl, rfl⟩ (by kernel_rfl) rfl plain (by kernel_rfl)
end Go.Proofs.YtinipmoepcgonaaDoor.orderComms
#print axioms Go.Proofs.YtinipmoepcgonaaDoor.orderComms.cardUpto
