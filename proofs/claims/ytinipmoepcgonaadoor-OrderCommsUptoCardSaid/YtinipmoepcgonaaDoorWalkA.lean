/-
  What the functions of the law answer: part 1.
-/
import Derived.Test.YtinipmoepcgonaaDoorEngB
import Derived.Test.YtinipmoepcgonaaDoorProg
import Derived.KernelRfl
set_option linter.unusedSimpArgs false
set_option linter.unusedVariables false

namespace Go.Eng.R16
open Go Go.Eng Go.Proofs

noncomputable def C0 : Ctx := { P := Tryd.prog, G := [], I := fun f => if f = 37 then some cmpI else none }

theorem names (f : Nat) (fn : Func) (h : Tryd.prog.funcs[f]? = some fn) : (fn.name == "runtime.NumGoroutine") = false := by
  have : (Tryd.prog.funcs.all fun fn => !(fn.name == "runtime.NumGoroutine")) = true := by kernel_rfl
  rw [Array.all_eq_true_iff_forall_mem] at this
  simpa using this fn (Array.mem_of_getElem? h)

theorem ok0 : CtxOk C0 where
  names := names
  intr := by
    intro f g hg args H v H' h
    simp only [C0] at hg
    split at hg
    · rename_i hf
      subst hf
      cases hg
      exact cmpI_spec Tryd.func37 (by kernel_rfl) (by kernel_rfl) (by kernel_rfl) (by kernel_rfl) h
    · cases hg

def isTrue : Option Rep → Bool
  | some (.ret (.bool true) _) => true
  | _ => false

/-- The document's examples. -/
theorem awake0 : isTrue (ev C0 2000 (.call 11 [] #[])) = true := by kernel_rfl

theorem awake (H : AHeap) : CallSpec C0 11 [] H (.ret (.bool true) H) := by
  have h := awake0
  unfold isTrue at h
  split at h
  · rename_i H1 he
    exact call_frame ((ev_ok ok0 2000).call 11 [] #[] _ he) rfl rfl rfl (fun _ _ h => by cases h) (fun b o h => by simp at h)
  · cases h

noncomputable def C : Ctx := { P := Tryd.prog, G := [], I := fun f => if f = 37 then some cmpI else if f = 11 then some (fun args H => if args.isEmpty then some (.bool true, H) else none) else none }

theorem ok : CtxOk C where
  names := names
  intr := by
    intro f g hg args H v H' h
    simp only [C] at hg
    split at hg
    · exact ok0.intr f g (by simpa [C0, ‹f = 37›] using hg) args H v H' h
    · split at hg
      · rename_i hf
        subst hf
        cases hg
        simp only at h
        split at h
        · rename_i ha
          obtain rfl : args = [] := by simpa using ha
          cases h
          exact awake H
        · cases h
      · cases hg

end Go.Eng.R16

namespace Go.Eng.R16
open Go Go.Eng Go.Proofs

theorem CP : C.P = Tryd.prog := rfl
theorem CG : C.G = [] := rfl
theorem el22 : elemS Tryd.prog 22 = some 47 := by kernel_rfl
theorem el47 : elemS Tryd.prog 47 = some 5 := by kernel_rfl
theorem sz47 : sizeT Tryd.prog 47 = some 1 := by kernel_rfl
theorem sz5 : sizeT Tryd.prog 5 = some 1 := by kernel_rfl
theorem by47 : bytesT Tryd.prog 47 = some 24 := by kernel_rfl
theorem by5 : bytesT Tryd.prog 5 = some 1 := by kernel_rfl
theorem ze47 : zeroT Tryd.prog 47 = some (.slice none 0 0) := by kernel_rfl
theorem ze5 : zeroT Tryd.prog 5 = some (.int .u8 0) := by kernel_rfl
theorem un22 : Tryd.prog.underlying 22 = some (.slice 47) := by kernel_rfl
theorem un47 : Tryd.prog.underlying 47 = some (.slice 5) := by kernel_rfl
theorem ag47 : isAggT Tryd.prog 47 = some false := by kernel_rfl

theorem S47 : SlT Tryd.prog 47 5 1 (.int .u8 0) := ⟨el47, sz5, by5, ze5, rfl, by decide⟩
theorem S22 : SlT Tryd.prog 22 47 24 (.slice none 0 0) := ⟨el22, sz47, by47, ze47, rfl, by decide⟩

/-- Lines in new memory. -/
theorem copied (H : AHeap) (v : Value) (ls : List (List UInt8)) (at1 at2 : Nat → Prop) (hv : RdL H any1 at1 at2 v ls) (hn : ls.length ≤ 1048576) (hb : ∀ l ∈ ls, l.length ≤ 1048576) :
    ∃ r H', evw C (.call 6 [v] H) = some (.ret r H') ∧ H.size ≤ H'.size ∧ (∀ b, b < H.size → H'[b]? = H[b]?) ∧
      RdL H' own1 (fun b => H.size ≤ b) (fun b => H.size ≤ b ∧ ¬ Mine r b) r ls := by
  have key : ∃ rep, evw C (.call 6 [v] H) = some rep ∧ ∃ r H', rep = .ret r H' ∧ H.size ≤ H'.size ∧ (∀ b, b < H.size → H'[b]? = H[b]?) ∧
      RdL H' own1 (fun b => H.size ≤ b) (fun b => H.size ≤ b ∧ ¬ Mine r b) r ls := by
    obtain ⟨vs, hvs, hvl, hrow⟩ := hv
    have hvs' := hvs
    obtain ⟨a0, c0, rfl⟩ := hvs.shape
    refine call_of (by simp [C]) Tryd.func6 rfl ?_
    simp only [Tryd.f6, List.length_cons, List.length_nil, Nat.reduceAdd, Nat.reduceSub, List.replicate, List.cons_append, List.nil_append]
    refine Wc.seq (Wc.region (by simp [aopsL, awanted, aop1, aout, isAlloc, heavy, alight, aeval, ASt.put, free, freeN]; rfl) ?_)
    refine Wc.seq (Wc.region (by simp [aopsL, awanted, aop1, aout, isAlloc, heavy, alight, aeval, ASt.put, free, freeN]; rfl) ?_)
    simp only
    refine Wc.seq (Wc.seq (Wc.region (by simp [aopsL, awanted, aop1, aout, isAlloc, heavy, alight, aeval, ASt.put, free, freeN, mapOpt, CP, un22]; rfl) ?_))
    simp only
    refine Wc.block (Wc.loop (fun k s => ∃ (i : Nat) (out : Value) (Hs : AHeap) (x5 x9 x10 x11 x12 x13 x14 x15 x16 x17 x18 x19 : Value),
      s = { tmps := [.slice a0 vs.length c0, undef, .slice none 0 0, out, undef, x5, .slice a0 vs.length c0, goInt vs.length, goInt i, x9, x10, x11, x12, x13, x14, x15, x16, x17, x18, x19], H := Hs, dfs := [] } ∧
      k = ls.length - i ∧ i ≤ ls.length ∧ H.size ≤ Hs.size ∧ (∀ b, b < H.size → Hs[b]? = H[b]?) ∧
      RdL Hs own1 (fun b => H.size ≤ b) (fun b => H.size ≤ b ∧ ¬ Mine out b) out (ls.take i)) ls.length ?_ ?_)
    · exact ⟨0, _, H, _, _, _, _, _, _, _, _, _, _, _, _, rfl, rfl, Nat.zero_le _, Nat.le_refl _, fun _ _ => rfl, by rw [List.take_zero]; exact RdL.nil⟩
    · rintro n s ⟨i, out, Hs, x5, x9, x10, x11, x12, x13, x14, x15, x16, x17, x18, x19, rfl, rfl, hi, hsz, hold, hout⟩
      refine Wc.seq (Wc.region (by simp [aopsL, awanted, aop1, aout, isAlloc, heavy, alight, aeval, ASt.put, free, freeN, goInt, abin_lss]; rfl) ?_)
      simp only
      refine Wc.seq (Wc.cond (t := decide (i < ls.length)) (by simp [aeval, dlt, hvl]) ?_)
      by_cases hlt : i < ls.length
      · -- one line more
        simp only [hlt, decide_true, if_true]
        refine Wc.skip ?_
        simp only
        obtain ⟨x, hx⟩ : ∃ x, vs[i]? = some x := ⟨vs[i]'(by omega), by simp [show i < vs.length by omega]⟩
        obtain ⟨l, hl⟩ : ∃ l, ls[i]? = some l := ⟨ls[i], by simp [hlt]⟩
        have hxl := hrow i x l hx hl
        have hcell : ∃ b o, a0 = some ⟨b, o, none⟩ ∧ Hs.cell? ⟨b, o + i, none⟩ = some x := by
          obtain ⟨b, o, c, hv2, hcell⟩ := (hvs'.frame (H' := Hs) fun b hb _ => hold b hb).at (fun _ => any1.alive) hx
          cases hv2
          exact ⟨b, o, rfl, hcell⟩
        obtain ⟨b, o, rfl, hcell⟩ := hcell
        have hxl' : RdB Hs any1 (fun b => b < H.size) x l := (hxl.mono (st' := any1) (at' := fun b => b < H.size) (fun _ h => h) (fun b hb _ => hb)).frame (fun b hb _ => hold b hb)
        have hll : l.length ≤ 1048576 := hb l (List.mem_of_getElem? hl)
        refine Wc.seq (Wc.block (Wc.seq (Wc.region (by
          simp [aopsL, awanted, aop1, aout, isAlloc, heavy, alight, aeval, ASt.put, goInt, CP, un22, sz47, hvl, hlt, addr_add0, aload, ag47, hcell]
          rfl) ?_)))
        simp only
        -- the two appends
        obtain ⟨r1, H2, happ1, hr1, hsz2, hold2⟩ := S47.fresh hxl' (fun _ => any1.alive) (bcells_ok l) (by rw [bcells_length]; simp [room]; omega)
        have hout2 := (hout.mono (st' := own1) (at' := fun b => H.size ≤ b ∧ b < Hs.size) (at2' := fun b => (H.size ≤ b ∧ ¬ Mine out b) ∧ b < Hs.size) (fun _ h => h) (fun b hb h => ⟨h, hb⟩) (fun b hb h => ⟨h, hb⟩)).frame (H' := H2)
          (fun b _ h => hold2 b h.2) (fun b _ h => hold2 b h.2)
        obtain ⟨r2, H4, happ2, hr2, hsz4, hold4⟩ := S22.line hout2 (hr1.mono (st' := own1) (at' := fun b => Hs.size ≤ b ∧ b < H2.size) (fun _ h => h) fun b hb h => ⟨h, hb⟩) (fun b h => h.1.2)
          (fun b h hm => by have := (hout.mine hm).1; omega) (by simp [room]; omega)
        refine Wc.region (by
          simp [aopsL, awanted, aop1, aout, isAlloc, heavy, alight, aeval, ASt.put, CP, S47.new0, S22.new1, hr1.new1V, New.val, aheavy, mapOpt, un47, un22, happ1, happ2]
          rfl) ?_
        simp only
        refine Wc.region (by
          simp [aopsL, awanted, aop1, aout, isAlloc, heavy, alight, aeval, ASt.put, free, freeN, abin_add, wrap_succ (show i < 9223372036854775807 by omega)]
          rfl) ?_
        simp only
        refine ⟨ls.length - (i + 1), by omega, i + 1, r2, H4, _, _, _, _, _, _, _, _, _, _, _, _, by rw [hvl]; rfl, rfl, by omega, by omega, fun b hb => ?_, ?_⟩
        · rw [hold4 b (by omega) fun hm => by have := (hout.mine hm).2; omega, hold2 b (by omega), hold b hb]
        · rw [show ls.take (i + 1) = ls.take i ++ [l] by rw [List.take_add_one, hl]; rfl]
          exact hr2.mono (fun _ h => h) (fun b _ h => by omega) fun b _ h => ⟨by omega, fun hm => by have := (hr2.mine hm).2; omega⟩
      · -- the end
        simp only [hlt, decide_false, Bool.false_eq_true, if_false]
        refine Wc.exit ?_
        simp only [if_true]
        refine Wc.seq (Wc.region (by simp [aopsL, awanted, aop1, aout, isAlloc, heavy, alight, aeval, ASt.put, free, freeN]; rfl) ?_)
        simp only
        refine Wc.ret ?_
        simp only
        refine ⟨.ret out Hs, by simp [leave, takeAll, mapOpt, aresult, oneOr], out, Hs, rfl, hsz, hold, ?_⟩
        rw [List.take_of_length_le (by omega)] at hout
        exact hout
  obtain ⟨rep, h1, r, H', rfl, h2⟩ := key
  exact ⟨r, H', h1, h2⟩
end Go.Eng.R16

namespace Go.Eng.R16
open Go Go.Eng Go.Proofs

theorem un9 : Tryd.prog.underlying 9 = some .string := by kernel_rfl
theorem un5 : Tryd.prog.underlying 5 = some (.int .u8) := by kernel_rfl

theorem take_eq_succ {α : Type} {ls ms : List α} {i : Nat} {l m : α} (h : ls.take i = ms.take i) (hl : ls[i]? = some l) (hm : ms[i]? = some m) : (ls.take (i + 1) = ms.take (i + 1) ↔ l = m) := by
  rw [List.take_add_one, List.take_add_one, hl, hm, h]
  simp

/-- Are they the same lines? -/
theorem same (H : AHeap) (u v : Value) (ls ms : List (List UInt8)) (a1 a2 b1 b2 : Nat → Prop) (hu : RdL H any1 a1 a2 u ls) (hv : RdL H any1 b1 b2 v ms) (hn : ls.length < 9223372036854775807) :
    evw C (.call 8 [u, v] H) = some (.ret (.bool (decide (ls = ms))) H) := by
  have key : ∃ rep, evw C (.call 8 [u, v] H) = some rep ∧ rep = .ret (.bool (decide (ls = ms))) H := by
    obtain ⟨us, hus, hul, hur⟩ := hu
    obtain ⟨vs, hvs, hvl, hvr⟩ := hv
    have hlu := lenB_of hus un22
    have hlv := lenB_of hvs un22
    refine call_of (by simp [C]) Tryd.func8 rfl ?_
    simp only [Tryd.f8, List.length_cons, List.length_nil, Nat.reduceAdd, Nat.reduceSub, List.replicate, List.cons_append, List.nil_append]
    refine Wc.seq (Wc.region (by simp [aopsL, awanted, aop1, aout, isAlloc, heavy, ↓alight_conv, ↓alight_len, ↓alight_idx, ↓alight_slc0, ↓alight_slcl, ↓alight_slch, alight, aheavy, aeval, ASt.put, mapOpt, free, freeN, New.val, goInt, CP]; rfl) ?_)
    simp only
    refine Wc.seq (Wc.seq (Wc.region (by simp [aopsL, awanted, aop1, aout, isAlloc, heavy, ↓alight_conv, ↓alight_len, ↓alight_idx, ↓alight_slc0, ↓alight_slcl, ↓alight_slch, alight, aheavy, aeval, ASt.put, mapOpt, free, freeN, New.val, goInt, CP, hlu, hlv, abin_neq]; rfl) ?_))
    simp only
    refine (Wc.cond (t := !decide (ls.length = ms.length)) (by simp [aeval, hul, hvl]; omega) ?_)
    by_cases hlen : ls.length = ms.length
    · simp only [hlen, decide_true, Bool.not_true, Bool.false_eq_true, if_false]
      refine Wc.skip ?_
      simp only
      refine Wc.seq (Wc.seq (Wc.region (by simp [aopsL, awanted, aop1, aout, isAlloc, heavy, ↓alight_conv, ↓alight_len, ↓alight_idx, ↓alight_slc0, ↓alight_slcl, ↓alight_slch, alight, aheavy, aeval, ASt.put, mapOpt, free, freeN, New.val, goInt, CP, hlu]; rfl) ?_))
      simp only
      refine Wc.block (Wc.loop (fun k s => ∃ (i : Nat) (x5 x6 x7 x8 x9 x10 x14 x15 x16 x17 x18 x19 x20 x21 x22 x23 x24 x25 x26 x27 : Value),
        s = { tmps := [u, v, undef, undef, .bool false, x5, x6, x7, x8, x9, x10, u, .int .i64 ls.length, .int .i64 i, x14, x15, x16, x17, x18, x19, x20, x21, x22, x23, x24, x25, x26, x27], H := H, dfs := [] } ∧
        k = ls.length - i ∧ i ≤ ls.length ∧ ls.take i = ms.take i) ls.length ?_ ?_)
      · exact ⟨0, _, _, _, _, _, _, _, _, _, _, _, _, _, _, _, _, _, _, _, _, by rw [hul]; rfl, rfl, Nat.zero_le _, rfl⟩
      · rintro n s ⟨i, x5, x6, x7, x8, x9, x10, x14, x15, x16, x17, x18, x19, x20, x21, x22, x23, x24, x25, x26, x27, rfl, rfl, hi, heq⟩
        refine Wc.seq (Wc.region (by simp [aopsL, awanted, aop1, aout, isAlloc, heavy, ↓alight_conv, ↓alight_len, ↓alight_idx, ↓alight_slc0, ↓alight_slcl, ↓alight_slch, alight, aheavy, aeval, ASt.put, mapOpt, free, freeN, New.val, goInt, CP, abin_lss]; rfl) ?_)
        simp only
        refine Wc.seq (Wc.cond (t := decide (i < ls.length)) (by simp [aeval]) ?_)
        by_cases hlt : i < ls.length
        · simp only [hlt, decide_true, if_true]
          refine Wc.skip ?_
          simp only
          obtain ⟨x, hx⟩ : ∃ x, us[i]? = some x := ⟨us[i]'(by omega), by simp [show i < us.length by omega]⟩
          obtain ⟨y, hy⟩ : ∃ y, vs[i]? = some y := ⟨vs[i]'(by omega), by simp [show i < vs.length by omega]⟩
          obtain ⟨l, hl⟩ : ∃ l, ls[i]? = some l := ⟨ls[i], by simp [hlt]⟩
          obtain ⟨m, hm⟩ : ∃ m, ms[i]? = some m := ⟨ms[i]'(by omega), by simp [show i < ms.length by omega]⟩
          obtain ⟨ax, hax, hcx⟩ := idxB_of hus (fun _ => any1.alive) un22 sz47 ag47 hx
          obtain ⟨ay, hay, hcy⟩ := idxB_of hvs (fun _ => any1.alive) un22 sz47 ag47 hy
          have hxl := convB_of (hur i x l hx hl) (fun _ => any1.alive) un47 un9 un5
          have hyl := convB_of (hvr i y m hy hm) (fun _ => any1.alive) un47 un9 un5
          refine Wc.seq (Wc.block (Wc.seq (Wc.region (by simp [aopsL, awanted, aop1, aout, isAlloc, heavy, ↓alight_conv, ↓alight_len, ↓alight_idx, ↓alight_slc0, ↓alight_slcl, ↓alight_slch, alight, aheavy, aeval, ASt.put, mapOpt, free, freeN, New.val, goInt, CP]; rfl) ?_)))
          simp only
          refine Wc.seq (Wc.draw (by kernel_rfl) (by simp [aopsL, awanted, aop1, aout, isAlloc, heavy, ↓alight_conv, ↓alight_len, ↓alight_idx, ↓alight_slc0, ↓alight_slcl, ↓alight_slch, alight, aheavy, aeval, ASt.put, mapOpt, free, freeN, New.val, goInt, CP, hax, hay, hcx, hcy, hxl, hyl, abin_str_neq]; rfl) ?_)
          simp only
          refine Wc.cond (t := !decide (l = m)) (by simp [aeval]) ?_
          have ht := take_eq_succ heq hl hm
          by_cases hlm : l = m
          · simp only [hlm, decide_true, Bool.not_true, Bool.false_eq_true, if_false]
            refine Wc.skip ?_
            simp only
            refine Wc.region (by simp [aopsL, awanted, aop1, aout, isAlloc, heavy, ↓alight_conv, ↓alight_len, ↓alight_idx, ↓alight_slc0, ↓alight_slcl, ↓alight_slch, alight, aheavy, aeval, ASt.put, mapOpt, free, freeN, New.val, goInt, CP, abin_add, wrap_succ (show i < 9223372036854775807 by omega)]; rfl) ?_
            simp only
            exact ⟨ls.length - (i + 1), by omega, i + 1, _, _, _, _, _, _, _, _, _, _, _, _, _, _, _, _, _, _, _, _, rfl, rfl, by omega, ht.2 hlm⟩
          · simp only [hlm, decide_false, Bool.not_false, if_true]
            refine Wc.seq (Wc.region (by simp [aopsL, awanted, aop1, aout, isAlloc, heavy, ↓alight_conv, ↓alight_len, ↓alight_idx, ↓alight_slc0, ↓alight_slcl, ↓alight_slch, alight, aheavy, aeval, ASt.put, mapOpt, free, freeN, New.val, goInt, CP]; rfl) ?_)
            simp only
            refine Wc.ret ?_
            simp only
            refine ⟨_, by simp [leave, takeAll, mapOpt, aresult, oneOr]; rfl, ?_⟩
            have : ls ≠ ms := by
              rintro rfl
              rw [hl] at hm
              exact hlm (Option.some.inj hm)
            simp [this]
        · simp only [hlt, decide_false, Bool.false_eq_true, if_false]
          refine Wc.exit ?_
          simp only [if_true]
          refine Wc.seq (Wc.region (by simp [aopsL, awanted, aop1, aout, isAlloc, heavy, ↓alight_conv, ↓alight_len, ↓alight_idx, ↓alight_slc0, ↓alight_slcl, ↓alight_slch, alight, aheavy, aeval, ASt.put, mapOpt, free, freeN, New.val, goInt, CP]; rfl) ?_)
          simp only
          refine Wc.ret ?_
          simp only
          refine ⟨_, by simp [leave, takeAll, mapOpt, aresult, oneOr]; rfl, ?_⟩
          have : ls = ms := by
            rw [List.take_of_length_le (by omega), List.take_of_length_le (by omega)] at heq
            exact heq
          simp [this]
    · simp only [hlen, decide_false, Bool.not_false, if_true]
      refine Wc.seq (Wc.region (by simp [aopsL, awanted, aop1, aout, isAlloc, heavy, ↓alight_conv, ↓alight_len, ↓alight_idx, ↓alight_slc0, ↓alight_slcl, ↓alight_slch, alight, aheavy, aeval, ASt.put, mapOpt, free, freeN, New.val, goInt, CP]; rfl) ?_)
      simp only
      refine Wc.ret ?_
      simp only
      refine ⟨_, by simp [leave, takeAll, mapOpt, aresult, oneOr]; rfl, ?_⟩
      have : ls ≠ ms := by rintro rfl; exact hlen rfl
      simp [this]
  obtain ⟨rep, h1, rfl⟩ := key
  exact h1
end Go.Eng.R16

namespace Go.Eng.R16
open Go Go.Eng Go.Proofs

/-- Rows, of which only their lengths are told. -/
def RdR (H : AHeap) (at2 : Nat → Prop) (vs : List Value) : Prop := ∀ (i : Nat) x, vs[i]? = some x → ∃ xs, RdS H own1 at2 x xs ∧ xs.length < 9223372036854775807

theorem RdR.shp {H H' : AHeap} {at2 : Nat → Prop} {vs : List Value} (h : RdR H at2 vs) (k : Shp H H') : RdR H' at2 vs := fun i x hx =>
  let ⟨_, h1, h2⟩ := h i x hx; let ⟨ys, h3, h4⟩ := h1.shp k; ⟨ys, h4, by omega⟩

/-- Lines are written over. -/
theorem spoil (H : AHeap) (v : Value) (ls : List (List UInt8)) (a1 a2 : Nat → Prop) (hv : RdL H own1 a1 a2 v ls) (hd : ∀ b, a2 b → ¬ Mine v b) (hn : ls.length < 9223372036854775807) (hb : ∀ l ∈ ls, l.length ≤ 1048580) :
    ∃ H', evw C (.call 10 [v] H) = some (.ret (.tuple #[]) H') ∧ H'.size = H.size ∧ ∀ b, ¬ a2 b → H'[b]? = H[b]? := by
  have key : ∃ rep, evw C (.call 10 [v] H) = some rep ∧ ∃ H', rep = .ret (.tuple #[]) H' ∧ H'.size = H.size ∧ ∀ b, ¬ a2 b → H'[b]? = H[b]? := by
    obtain ⟨vs, hvs, hvl, hvr⟩ := hv
    have hrows : RdR H a2 vs := fun i x hx => by
      have hi : i < vs.length := (List.getElem?_eq_some_iff.1 hx).1
      have hl : ls[i]? = some (ls[i]'(by omega)) := by simp [show i < ls.length by omega]
      refine ⟨_, hvr i x _ hx hl, ?_⟩
      have := hb _ (List.mem_of_getElem? hl)
      rw [bcells_length]; omega
    refine call_of (by simp [C]) Tryd.func10 rfl ?_
    simp only [Tryd.f10, List.length_cons, List.length_nil, Nat.reduceAdd, Nat.reduceSub, List.replicate, List.cons_append, List.nil_append]
    have hlv := lenB_of hvs un22
    refine Wc.seq (Wc.region (by simp [aopsL, awanted, aop1, aout, isAlloc, heavy, ↓alight_conv, ↓alight_len, ↓alight_idx, ↓alight_slc0, ↓alight_slcl, ↓alight_slch, alight, aheavy, aeval, ASt.put, mapOpt, free, freeN, New.val, goInt, CP, hlv]; rfl) ?_)
    simp only
    refine Wc.block (Wc.loop (fun k s => ∃ (i : Nat) (Hs : AHeap) (x3 x4 x8 x9 x10 x11 x12 x13 x14 x15 x16 x17 x18 x19 x20 : Value),
      s = { tmps := [v, undef, undef, x3, x4, v, .int .i64 ls.length, .int .i64 i, x8, x9, x10, x11, x12, x13, x14, x15, x16, x17, x18, x19, x20], H := Hs, dfs := [] } ∧
      k = ls.length - i ∧ i ≤ ls.length ∧ Shp H Hs ∧ ∀ b, ¬ a2 b → Hs[b]? = H[b]?) ls.length ?_ ?_)
    · exact ⟨0, _, _, _, _, _, _, _, _, _, _, _, _, _, _, _, _, by rw [hvl]; rfl, rfl, Nat.zero_le _, .refl H, fun _ _ => rfl⟩
    · rintro n s ⟨i, Hs, x3, x4, x8, x9, x10, x11, x12, x13, x14, x15, x16, x17, x18, x19, x20, rfl, rfl, hi, hshp, hold⟩
      refine Wc.seq (Wc.region (by simp [aopsL, awanted, aop1, aout, isAlloc, heavy, ↓alight_conv, ↓alight_len, ↓alight_idx, ↓alight_slc0, ↓alight_slcl, ↓alight_slch, alight, aheavy, aeval, ASt.put, mapOpt, free, freeN, New.val, goInt, CP, abin_lss]; rfl) ?_)
      simp only
      refine Wc.seq (Wc.cond (t := decide (i < ls.length)) (by simp [aeval]) ?_)
      by_cases hlt : i < ls.length
      · simp only [hlt, decide_true, if_true]
        refine Wc.skip ?_
        simp only
        obtain ⟨x, hx⟩ : ∃ x, vs[i]? = some x := ⟨vs[i]'(by omega), by simp [show i < vs.length by omega]⟩
        have hvs2 : RdS Hs own1 (Mine v) v vs := hvs.self.frame fun b _ hm => hold b fun h2 => hd b h2 hm
        obtain ⟨ax, hax, hcx⟩ := idxB_of hvs2 (fun _ => own1.alive) un22 sz47 ag47 hx
        obtain ⟨xs, hxs, hxl⟩ := hrows.shp hshp i x hx
        have hlx := lenB_of hxs un47
        refine Wc.seq (Wc.block (Wc.seq (Wc.region (by simp [aopsL, awanted, aop1, aout, isAlloc, heavy, ↓alight_conv, ↓alight_len, ↓alight_idx, ↓alight_slc0, ↓alight_slcl, ↓alight_slch, alight, aheavy, aeval, ASt.put, mapOpt, free, freeN, New.val, goInt, CP, hax, hcx]; rfl) ?_)))
        simp only
        refine Wc.seq (Wc.region (by simp [aopsL, awanted, aop1, aout, isAlloc, heavy, ↓alight_conv, ↓alight_len, ↓alight_idx, ↓alight_slc0, ↓alight_slcl, ↓alight_slch, alight, aheavy, aeval, ASt.put, mapOpt, free, freeN, New.val, goInt, CP, hlx]; rfl) ?_)
        simp only
        refine Wc.block (Wc.loop (fun k s => ∃ (j : Nat) (Hj : AHeap) (y4 y8 y9 y10 y11 y14 y15 y16 y17 y18 y19 y20 : Value),
          s = { tmps := [v, undef, undef, x, y4, v, .int .i64 ls.length, .int .i64 i, y8, y9, y10, y11, .int .i64 xs.length, .int .i64 j, y14, y15, y16, y17, y18, y19, y20], H := Hj, dfs := [] } ∧
          k = xs.length - j ∧ j ≤ xs.length ∧ Shp H Hj ∧ Shp Hs Hj ∧ ∀ b, ¬ a2 b → Hj[b]? = H[b]?) xs.length ?_ ?_)
        · exact ⟨0, _, _, _, _, _, _, _, _, _, _, _, _, _, rfl, rfl, Nat.zero_le _, hshp, .refl _, hold⟩
        · rintro n s ⟨j, Hj, y4, y8, y9, y10, y11, y14, y15, y16, y17, y18, y19, y20, rfl, rfl, hj, hshj, hsj, holdj⟩
          refine Wc.seq (Wc.region (by simp [aopsL, awanted, aop1, aout, isAlloc, heavy, ↓alight_conv, ↓alight_len, ↓alight_idx, ↓alight_slc0, ↓alight_slcl, ↓alight_slch, alight, aheavy, aeval, ASt.put, mapOpt, free, freeN, New.val, goInt, CP, abin_lss]; rfl) ?_)
          simp only
          refine Wc.seq (Wc.cond (t := decide (j < xs.length)) (by simp [aeval]) ?_)
          by_cases hjl : j < xs.length
          · simp only [hjl, decide_true, if_true]
            refine Wc.skip ?_
            simp only
            obtain ⟨ys, hyl, hys⟩ := hxs.shp hsj
            obtain ⟨ad, had, hput⟩ := hys.put un47 sz5 (show j < ys.length by omega)
            obtain ⟨H', hst, hsh', hold', _⟩ := hput (.int .u8 1) rfl rfl
            refine Wc.seq (Wc.block (Wc.seq (Wc.region (by simp [aopsL, awanted, aop1, aout, isAlloc, heavy, ↓alight_conv, ↓alight_len, ↓alight_idx, ↓alight_slc0, ↓alight_slcl, ↓alight_slch, alight, aheavy, aeval, ASt.put, mapOpt, free, freeN, New.val, goInt, CP]; rfl) ?_)))
            simp only
            refine Wc.region (by simp [aopsL, awanted, aop1, aout, isAlloc, heavy, ↓alight_conv, ↓alight_len, ↓alight_idx, ↓alight_slc0, ↓alight_slcl, ↓alight_slch, alight, aheavy, aeval, ASt.put, mapOpt, free, freeN, New.val, goInt, CP, had, hst]; rfl) ?_
            simp only
            refine Wc.region (by simp [aopsL, awanted, aop1, aout, isAlloc, heavy, ↓alight_conv, ↓alight_len, ↓alight_idx, ↓alight_slc0, ↓alight_slcl, ↓alight_slch, alight, aheavy, aeval, ASt.put, mapOpt, free, freeN, New.val, goInt, CP, abin_add, wrap_succ (show j < 9223372036854775807 by omega)]; rfl) ?_
            simp only
            exact ⟨xs.length - (j + 1), by omega, j + 1, H', _, _, _, _, _, _, _, _, _, _, _, _, rfl, rfl, by omega, hshj.trans hsh', hsj.trans hsh', fun b hb => (hold' b fun hm => hb (hys.mine hm).2).trans (holdj b hb)⟩
          · simp only [hjl, decide_false, Bool.false_eq_true, if_false]
            refine Wc.exit ?_
            simp only [if_true]
            refine Wc.region (by simp [aopsL, awanted, aop1, aout, isAlloc, heavy, ↓alight_conv, ↓alight_len, ↓alight_idx, ↓alight_slc0, ↓alight_slcl, ↓alight_slch, alight, aheavy, aeval, ASt.put, mapOpt, free, freeN, New.val, goInt, CP, abin_add, wrap_succ (show i < 9223372036854775807 by omega)]; rfl) ?_
            simp only
            exact ⟨ls.length - (i + 1), by omega, i + 1, Hj, _, _, _, _, _, _, _, _, _, _, _, _, _, _, _, rfl, rfl, by omega, hshj, holdj⟩
      · simp only [hlt, decide_false, Bool.false_eq_true, if_false]
        refine Wc.exit ?_
        simp only [if_true]
        refine ⟨_, by simp [leave, takeAll, mapOpt, oneOr], Hs, rfl, hshp.size, hold⟩
  obtain ⟨rep, h1, H', rfl, h2⟩ := key
  exact ⟨H', h1, h2⟩
end Go.Eng.R16

namespace Go.Eng.R16
open Go Go.Eng Go.Proofs

theorem cmp37 {H : AHeap} {x y : Value} {l m : List UInt8} {a b : Nat → Prop} {st st' : St → Prop} (hx : RdB H st a x l) (hy : RdB H st' b y m) (h1 : ∀ s, st s → s ≠ .dead) (h2 : ∀ s, st' s → s ≠ .dead) :
    evw C (.call 37 [x, y] H) = some (.ret (.int .i64 (Lib.compareBytes l m)) H) :=
  evw_step (by simp [step1, C, cmpI, hx.bytes h1, hy.bytes h2, goInt])

theorem compare {H : AHeap} {x y : Value} {l m : List UInt8} {a b : Nat → Prop} {st st' : St → Prop} (hx : RdB H st a x l) (hy : RdB H st' b y m) (h1 : ∀ s, st s → s ≠ .dead) (h2 : ∀ s, st' s → s ≠ .dead) :
    evw C (.call 19 [x, y] H) = some (.ret (.int .i64 (Lib.compareBytes l m)) H) := by
  have key : ∃ rep, evw C (.call 19 [x, y] H) = some rep ∧ rep = .ret (.int .i64 (Lib.compareBytes l m)) H := by
    refine call_of (by simp [C]) Tryd.func19 rfl ?_
    simp only [Tryd.f19, List.length_cons, List.length_nil, Nat.reduceAdd, Nat.reduceSub, List.replicate, List.cons_append, List.nil_append]
    refine Wc.seq (Wc.region (by simp [aopsL, awanted, aop1, aout, isAlloc, heavy, ↓alight_conv, ↓alight_len, ↓alight_idx, ↓alight_slc0, ↓alight_slcl, ↓alight_slch, alight, aheavy, aeval, ASt.put, mapOpt, free, freeN, New.val, goInt, CP]; rfl) ?_)
    simp only
    refine Wc.seq (Wc.region (by simp [aopsL, awanted, aop1, aout, isAlloc, heavy, ↓alight_conv, ↓alight_len, ↓alight_idx, ↓alight_slc0, ↓alight_slcl, ↓alight_slch, alight, aheavy, aeval, ASt.put, mapOpt, free, freeN, New.val, goInt, CP, cmp37 hx hy h1 h2]; rfl) ?_)
    simp only
    refine Wc.ret ?_
    simp only
    exact ⟨_, by simp [leave, takeAll, mapOpt, aresult, oneOr], rfl⟩
  obtain ⟨rep, h1, rfl⟩ := key
  exact h1

theorem cmp_less : ∀ l m : List UInt8, Lib.compareBytes l m = if Op.bytesLess l m then -1 else if l = m then 0 else 1
  | [], [] => rfl
  | [], _ :: _ => rfl
  | _ :: _, [] => rfl
  | a :: l, b :: m => by
    have ih := cmp_less l m
    unfold Lib.compareBytes Op.bytesLess
    rw [ih]
    by_cases h1 : a < b
    · simp [h1]
    · by_cases h2 : b < a
      · have : a ≠ b := by rintro rfl; exact h1 h2
        simp [h1, h2, this]
      · have : a = b := by
          apply UInt8.le_antisymm
          · exact UInt8.not_lt.1 h2
          · exact UInt8.not_lt.1 h1
        subst this
        simp [h1]

theorem bytes20 {H : AHeap} {x y : Value} {l m : List UInt8} {a b : Nat → Prop} {st st' : St → Prop} (hx : RdB H st a x l) (hy : RdB H st' b y m) (h1 : ∀ s, st s → s ≠ .dead) (h2 : ∀ s, st' s → s ≠ .dead) :
    evw C (.call 20 [x, y] H) = some (.ret (.int .i64 (Lib.compareBytes l m)) H) := by
  have key : ∃ rep, evw C (.call 20 [x, y] H) = some rep ∧ rep = .ret (.int .i64 (Lib.compareBytes l m)) H := by
    have hxl := convB_of hx h1 un47 un9 un5
    have hyl := convB_of hy h2 un47 un9 un5
    rw [cmp_less]
    refine call_of (by simp [C]) Tryd.func20 rfl ?_
    simp only [Tryd.f20, List.length_cons, List.length_nil, Nat.reduceAdd, Nat.reduceSub, List.replicate, List.cons_append, List.nil_append]
    refine Wc.seq (Wc.region (by simp [aopsL, awanted, aop1, aout, isAlloc, heavy, ↓alight_conv, ↓alight_len, ↓alight_idx, ↓alight_slc0, ↓alight_slcl, ↓alight_slch, alight, aheavy, aeval, ASt.put, mapOpt, free, freeN, New.val, goInt, CP]; rfl) ?_)
    simp only
    refine Wc.seq (Wc.seq (Wc.region (by simp [aopsL, awanted, aop1, aout, isAlloc, heavy, ↓alight_conv, ↓alight_len, ↓alight_idx, ↓alight_slc0, ↓alight_slcl, ↓alight_slch, alight, aheavy, aeval, ASt.put, mapOpt, free, freeN, New.val, goInt, CP, hxl, hyl, abin_str_lss]; rfl) ?_))
    simp only
    refine Wc.cond (t := Op.bytesLess l m) (by simp [aeval]) ?_
    cases hlt : Op.bytesLess l m
    · simp only [Bool.false_eq_true, if_false]
      refine Wc.skip ?_
      simp only
      refine Wc.seq (Wc.seq (Wc.region (by simp [aopsL, awanted, aop1, aout, isAlloc, heavy, ↓alight_conv, ↓alight_len, ↓alight_idx, ↓alight_slc0, ↓alight_slcl, ↓alight_slch, alight, aheavy, aeval, ASt.put, mapOpt, free, freeN, New.val, goInt, CP, hxl, hyl, abin_str_gtr, hlt]; rfl) ?_))
      simp only
      refine Wc.cond (t := !decide (l = m)) (by simp [aeval]) ?_
      by_cases hlm : l = m
      · simp only [hlm, decide_true, Bool.not_true, Bool.false_eq_true, if_false, if_true]
        refine Wc.skip ?_
        simp only
        refine Wc.seq (Wc.region (by simp [aopsL, awanted, aop1, aout, isAlloc, heavy, ↓alight_conv, ↓alight_len, ↓alight_idx, ↓alight_slc0, ↓alight_slcl, ↓alight_slch, alight, aheavy, aeval, ASt.put, mapOpt, free, freeN, New.val, goInt, CP]; rfl) ?_)
        simp only
        refine Wc.ret ?_
        simp only
        exact ⟨_, by simp [leave, takeAll, mapOpt, aresult, oneOr], rfl⟩
      · simp only [hlm, decide_false, Bool.not_false, if_true, if_false]
        refine Wc.seq (Wc.region (by simp [aopsL, awanted, aop1, aout, isAlloc, heavy, ↓alight_conv, ↓alight_len, ↓alight_idx, ↓alight_slc0, ↓alight_slcl, ↓alight_slch, alight, aheavy, aeval, ASt.put, mapOpt, free, freeN, New.val, goInt, CP]; rfl) ?_)
        simp only
        refine Wc.ret ?_
        simp only
        exact ⟨_, by simp [leave, takeAll, mapOpt, aresult, oneOr], rfl⟩
    · simp only [if_true]
      refine Wc.seq (Wc.region (by simp [aopsL, awanted, aop1, aout, isAlloc, heavy, ↓alight_conv, ↓alight_len, ↓alight_idx, ↓alight_slc0, ↓alight_slcl, ↓alight_slch, alight, aheavy, aeval, ASt.put, mapOpt, free, freeN, New.val, goInt, CP]; rfl) ?_)
      simp only
      refine Wc.ret ?_
      simp only
      exact ⟨_, by simp [leave, takeAll, mapOpt, aresult, oneOr], rfl⟩
  obtain ⟨rep, h1, rfl⟩ := key
  exact h1
end Go.Eng.R16

namespace Go.Eng.R16
open Go Go.Eng Go.Proofs

/-- Is bit n of h set? -/
def bit (h : Int) (n : Nat) : Bool := decide ((h / 2 ^ n) % 2 = 1)
def mask (n : Nat) : Int := 2 ^ n
def bitv (h : Int) (n : Nat) : Int := if bit h n then mask n else 0
def shv (h : Int) (n : Nat) : Int := h.fdiv (2 ^ (min n 64))
def bitw (h : Int) (n : Nat) : Int := if bit h n then 1 else 0

theorem toNat_ofInt (h : Int) : (BitVec.ofInt 64 h).toNat = (h % 18446744073709551616).toNat := by
  rw [BitVec.toNat_ofInt]; rfl

theorem and_pow (x n : Nat) : x &&& 2 ^ n = if x.testBit n then 2 ^ n else 0 := by
  apply Nat.eq_of_testBit_eq
  intro i
  rw [Nat.testBit_and, Nat.testBit_two_pow]
  by_cases hi : n = i
  · subst hi
    cases h : x.testBit n <;> simp [Nat.testBit_two_pow]
  · cases h : x.testBit n <;> simp [hi, Nat.testBit_two_pow]

section
variable {P : Program} {t : TypeId} {x y : Operand} {h : Int} {n : Nat}

theorem abin_shl1 (hn : n < 3) : abin P .shl t x y (.int .i64 1) (.int .i64 n) = some (.int .i64 (mask n)) := by
  rw [abin_shl (by omega)]
  match n, hn with
  | 0, _ => rfl
  | 1, _ => rfl
  | 2, _ => rfl

theorem abin_andm (hn : n < 3) : abin P .and t x y (.int .i64 h) (.int .i64 (mask n)) = some (.int .i64 (bitv h n)) := by
  rw [abin_and]
  have key : (BitVec.ofInt 64 h &&& BitVec.ofInt 64 (mask n)).toNat = (bitv h n).toNat := by
    rw [BitVec.toNat_and, toNat_ofInt]
    have hm : (BitVec.ofInt 64 (mask n)).toNat = 2 ^ n := by
      match n, hn with
      | 0, _ => rfl
      | 1, _ => rfl
      | 2, _ => rfl
    rw [hm, and_pow, Nat.testBit_eq_decide_div_mod_eq]
    unfold bitv bit mask
    match n, hn with
    | 0, _ => simp only [Nat.pow_zero, Int.pow_zero]; by_cases hb : h / 1 % 2 = 1 <;> simp [hb] <;> ((try split) <;> omega)
    | 1, _ => simp only [Nat.pow_one, Int.pow_succ, Int.pow_zero]; by_cases hb : h / (1 * 2) % 2 = 1 <;> simp [hb] <;> ((try split) <;> omega)
    | 2, _ => simp only [Int.pow_succ, Int.pow_zero]; by_cases hb : h / (1 * 2 * 2) % 2 = 1 <;> simp [hb] <;> ((try split) <;> omega)
  have : (BitVec.ofInt IntKind.i64.bits h &&& BitVec.ofInt IntKind.i64.bits (mask n)).toNat = (bitv h n).toNat := key
  rw [this]
  have hb : 0 ≤ bitv h n ∧ bitv h n ≤ 4 := by
    unfold bitv mask
    match n, hn with
    | 0, _ => split <;> simp
    | 1, _ => split <;> simp
    | 2, _ => split <;> simp
  rw [wrap_i64_id (by omega) (by omega)]
  congr 2
  omega

theorem bitv_zero (hn : n < 3) : decide (bitv h n = 0) = !bit h n := by
  unfold bitv mask
  match n, hn with
  | 0, _ => cases bit h 0 <;> simp
  | 1, _ => cases bit h 1 <;> simp
  | 2, _ => cases bit h 2 <;> simp

theorem abin_shrv : abin P .shr t x y (.int .i64 h) (.int .i64 n) = some (.int .i64 (shv h n)) := by
  rw [abin_shr (by omega)]; rfl

theorem abin_and1 (hn : n < 3) : abin P .and t x y (.int .i64 (shv h n)) (.int .i64 1) = some (.int .i64 (bitw h n)) := by
  rw [abin_and]
  have key : (BitVec.ofInt 64 (shv h n) &&& BitVec.ofInt 64 1).toNat = (bitw h n).toNat := by
    rw [BitVec.toNat_and, toNat_ofInt]
    have h1 : (BitVec.ofInt 64 1).toNat = 2 ^ 0 := rfl
    rw [h1, and_pow, Nat.testBit_eq_decide_div_mod_eq]
    unfold bitw bit shv
    have hf : ∀ m : Nat, h.fdiv (2 ^ m) = h / 2 ^ m := fun m => Int.fdiv_eq_ediv_of_nonneg _ (by exact_mod_cast Nat.zero_le _)
    rw [hf]
    match n, hn with
    | 0, _ => simp only [Nat.zero_min, Nat.pow_zero, Int.pow_zero]; by_cases hb : h / 1 % 2 = 1 <;> simp [hb] <;> ((try split) <;> omega)
    | 1, _ => simp only [show min 1 64 = 1 from rfl, Nat.pow_zero, Int.pow_succ, Int.pow_zero]; by_cases hb : h / (1 * 2) % 2 = 1 <;> simp [hb] <;> ((try split) <;> omega)
    | 2, _ => simp only [show min 2 64 = 2 from rfl, Nat.pow_zero, Int.pow_succ, Int.pow_zero]; by_cases hb : h / (1 * 2 * 2) % 2 = 1 <;> simp [hb] <;> ((try split) <;> omega)
  have : (BitVec.ofInt IntKind.i64.bits (shv h n) &&& BitVec.ofInt IntKind.i64.bits 1).toNat = (bitw h n).toNat := key
  rw [this]
  unfold bitw
  split <;> rfl

theorem bitw_one : decide (bitw h n = 1) = bit h n := by unfold bitw; cases bit h n <;> simp
theorem bitw_zero : decide (bitw h n = 0) = !bit h n := by unfold bitw; cases bit h n <;> simp
end

/-- The tabs ahead of column n. -/
def tabs (h : Int) (n : Nat) : List UInt8 := (List.range n).flatMap fun c => if bit h c then [] else [9]

theorem tabs_succ (h : Int) (n : Nat) : tabs h (n + 1) = tabs h n ++ (if bit h n then [] else [9]) := by
  simp [tabs, List.range_succ]

theorem tabs_length (h : Int) : ∀ n, (tabs h n).length ≤ n
  | 0 => by simp [tabs]
  | n + 1 => by
    have := tabs_length h n
    rw [tabs_succ]
    split <;> simp <;> omega
end Go.Eng.R16

namespace Go.Eng.R16
open Go Go.Eng
theorem cmp_zero : ∀ {l m : List UInt8}, Lib.compareBytes l m = 0 → l = m
  | [], [], _ => rfl
  | [], _ :: _, h => by simp [Lib.compareBytes] at h
  | _ :: _, [], h => by simp [Lib.compareBytes] at h
  | a :: l, b :: m, h => by
    unfold Lib.compareBytes at h
    by_cases h1 : a < b
    · simp [h1] at h
    · by_cases h2 : b < a
      · simp [h1, h2] at h
      · have : a = b := UInt8.le_antisymm (UInt8.not_lt.1 h2) (UInt8.not_lt.1 h1)
        subst this
        simp only [h1, if_false] at h
        rw [cmp_zero h]
end Go.Eng.R16

namespace Go.Eng.R16
open Go Go.Eng Go.Proofs

theorem ag3 : isAggT Tryd.prog 3 = some false := by kernel_rfl
theorem ag22 : isAggT Tryd.prog 22 = some false := by kernel_rfl
theorem sz22 : sizeT Tryd.prog 22 = some 1 := by kernel_rfl

/-- What Comm has told so far: behind a variable, as is which columns are hidden. -/
structure Acc (N bh bo : Nat) (h : Int) (H0 H : AHeap) (out : Value) (ls : List (List UInt8)) : Prop where
  nh : N ≤ bh
  no : N ≤ bo
  hh : H[bh]? = some (.cells [.int .i64 h] (.rw 0))
  ho : H[bo]? = some (.cells [out] (.rw 0))
  lines : RdL H own1 (fun b => N ≤ b) (fun b => N ≤ b ∧ ¬ Mine out b) out ls
  old : ∀ b, b < N → H[b]? = H0[b]?
  size : N ≤ H.size

theorem RdS.mine_own {H : AHeap} {at_ : Nat → Prop} {v : Value} {xs : List Value} (h : RdS H own1 at_ v xs) {b : Nat} (hb : Mine v b) : ∃ cs, H[b]? = some (.cells cs (.rw 1)) := by
  obtain ⟨a, n, c, rfl, rfl⟩ := hb
  rcases h with ⟨h, _⟩ | ⟨b, o, c', cs, s, e1, e2, e3, e4, e5, _⟩
  · cases h
  · cases e1
    obtain rfl : s = .rw 1 := e5
    exact ⟨cs, e4⟩

theorem tell (N bh bo : Nat) (h : Int) (H0 H : AHeap) (out line : Value) (ls : List (List UInt8)) (l : List UInt8) (al : Nat → Prop) (n : Nat) (hn : n < 3) (hl : RdB H any1 al line l) (hll : l.length ≤ 1048576) (hls : ls.length ≤ 4194304)
    (A : Acc N bh bo h H0 H out ls) :
    ∃ H' out', evw C (.call 18 [.int .i64 ((n + 1 : Nat) : Int), line, .pointer (some (at0 bh)), .pointer (some (at0 bo))] H) = some (.ret (.tuple #[]) H') ∧ Acc N bh bo h H0 H' out' (if bit h n then ls else ls ++ [tabs h n ++ l]) := by
  have key : ∃ rep, evw C (.call 18 [.int .i64 ((n + 1 : Nat) : Int), line, .pointer (some (at0 bh)), .pointer (some (at0 bo))] H) = some rep ∧
      ∃ H' out', rep = .ret (.tuple #[]) H' ∧ Acc N bh bo h H0 H' out' (if bit h n then ls else ls ++ [tabs h n ++ l]) := by
    have hldh : aload Tryd.prog H 3 (at0 bh) = some (.int .i64 h) := by simp [aload, ag3, at0, cell?_eq A.hh]
    have hwn : IntKind.i64.wrap (n : Int) = (n : Int) := wrap_i64_id (by omega) (by omega)
    refine call_of (by simp [C]) Tryd.func18 rfl ?_
    simp only [Tryd.f18, List.length_cons, List.length_nil, Nat.reduceAdd, Nat.reduceSub, List.replicate, List.cons_append, List.nil_append]
    refine Wc.seq (Wc.seq (Wc.draw (by kernel_rfl) (by simp [aopsL, awanted, aop1, aout, isAlloc, heavy, ↓alight_conv, ↓alight_len, ↓alight_idx, ↓alight_slc0, ↓alight_slcl, ↓alight_slch, alight, aheavy, aeval, ASt.put, mapOpt, free, freeN, New.val, goInt, CP, hldh, abin_sub, hwn, abin_shl1 hn, abin_andm hn, abin_neq, bitv_zero hn]; rfl) ?_))
    simp only
    refine Wc.cond (t := bit h n) (by simp [aeval]) ?_
    cases hbit : bit h n
    · simp only [Bool.false_eq_true, if_false]
      refine Wc.skip ?_
      simp only
      refine Wc.seq (Wc.region (by simp [aopsL, awanted, aop1, aout, isAlloc, heavy, ↓alight_conv, ↓alight_len, ↓alight_idx, ↓alight_slc0, ↓alight_slcl, ↓alight_slch, alight, aheavy, aeval, ASt.put, mapOpt, free, freeN, New.val, goInt, CP]; rfl) ?_)
      simp only
      refine Wc.seq (Wc.seq (Wc.region (by simp [aopsL, awanted, aop1, aout, isAlloc, heavy, ↓alight_conv, ↓alight_len, ↓alight_idx, ↓alight_slc0, ↓alight_slcl, ↓alight_slch, alight, aheavy, aeval, ASt.put, mapOpt, free, freeN, New.val, goInt, CP]; rfl) ?_))
      simp only
      refine Wc.block (Wc.loop (fun k s => ∃ (j : Nat) (x : Value) (Hs : AHeap) (y8 y9 y10 y11 y12 y13 y14 y15 y16 y17 y18 y19 y20 y21 y22 y23 y24 y25 y26 y27 y28 y29 y30 y31 y32 y33 y34 y35 : Value),
        s = { tmps := [.int .i64 ((n : Int) + 1), line, .pointer (some (at0 bh)), .pointer (some (at0 bo)), undef, undef, x, .int .i64 ((j : Int) + 1), y8, y9, y10, y11, y12, y13, y14, y15, y16, y17, y18, y19, y20, y21, y22, y23, y24, y25, y26, y27, y28, y29, y30, y31, y32, y33, y34, y35], H := Hs, dfs := [] } ∧
        k = n - j ∧ j ≤ n ∧ H.size ≤ Hs.size ∧ (∀ b, b < H.size → Hs[b]? = H[b]?) ∧ RdB Hs own1 (fun b => H.size ≤ b) x (tabs h j)) n ?_ ?_)
      · exact ⟨0, _, _, _, _, _, _, _, _, _, _, _, _, _, _, _, _, _, _, _, _, _, _, _, _, _, _, _, _, _, _, rfl, rfl, Nat.zero_le _, Nat.le_refl _, fun _ _ => rfl, RdS.nil⟩
      · rintro k s ⟨j, x, Hs, y8, y9, y10, y11, y12, y13, y14, y15, y16, y17, y18, y19, y20, y21, y22, y23, y24, y25, y26, y27, y28, y29, y30, y31, y32, y33, y34, y35, rfl, rfl, hj, hsz, hold, hx⟩
        refine Wc.seq (Wc.seq (Wc.region (by simp [aopsL, awanted, aop1, aout, isAlloc, heavy, ↓alight_conv, ↓alight_len, ↓alight_idx, ↓alight_slc0, ↓alight_slcl, ↓alight_slch, alight, aheavy, aeval, ASt.put, mapOpt, free, freeN, New.val, goInt, CP, abin_lss]; rfl) ?_))
        simp only
        refine Wc.cond (t := decide (j < n)) (by simp [aeval]) ?_
        by_cases hlt : j < n
        · simp only [hlt, decide_true, if_true]
          refine Wc.skip ?_
          simp only
          have hbh : bh < H.size := (Array.getElem?_eq_some_iff.1 A.hh).1
          have hldj : aload Tryd.prog Hs 3 (at0 bh) = some (.int .i64 h) := by simp [aload, ag3, at0, cell?_eq ((hold bh hbh).trans A.hh)]
          have hwj : IntKind.i64.wrap (j : Int) = (j : Int) := wrap_i64_id (by omega) (by omega)
          have hwj2 : IntKind.i64.wrap ((j : Int) + 1 + 1) = (j : Int) + 1 + 1 := wrap_i64_id (by omega) (by omega)
          refine Wc.seq (Wc.block (Wc.seq (Wc.draw (by kernel_rfl) (by simp [aopsL, awanted, aop1, aout, isAlloc, heavy, ↓alight_conv, ↓alight_len, ↓alight_idx, ↓alight_slc0, ↓alight_slcl, ↓alight_slch, alight, aheavy, aeval, ASt.put, mapOpt, free, freeN, New.val, goInt, CP, hldj, abin_sub, hwj, abin_shl1 (show j < 3 by omega), abin_andm (show j < 3 by omega), abin_eql, bitv_zero (show j < 3 by omega)]; rfl) ?_)))
          simp only
          refine Wc.cond (t := !bit h j) (by simp [aeval]) ?_
          have hts := tabs_succ h j
          cases hbj : bit h j
          · simp only [hbj, Bool.not_false, if_true, Bool.false_eq_true, if_false] at hts ⊢
            obtain ⟨r, H2, happ, hr, hsz2, hold2⟩ := S47.one (x := .int .u8 9) hx rfl (bcells_ok _) (by have := tabs_length h j; rw [bcells_length]; simp [room]; omega)
            refine Wc.region (by simp [aopsL, awanted, aop1, aout, isAlloc, heavy, ↓alight_conv, ↓alight_len, ↓alight_idx, ↓alight_slc0, ↓alight_slcl, ↓alight_slch, alight, aheavy, aeval, ASt.put, mapOpt, free, freeN, New.val, goInt, CP, S47.new1, new1V, vcells, Value.cells, cellOk, un47, happ]; rfl) ?_
            simp only
            refine Wc.region (by simp [aopsL, awanted, aop1, aout, isAlloc, heavy, ↓alight_conv, ↓alight_len, ↓alight_idx, ↓alight_slc0, ↓alight_slcl, ↓alight_slch, alight, aheavy, aeval, ASt.put, mapOpt, free, freeN, New.val, goInt, CP, abin_add, hwj2]; rfl) ?_
            simp only
            refine ⟨n - (j + 1), by omega, j + 1, r, H2, _, _, _, _, _, _, _, _, _, _, _, _, _, _, _, _, _, _, _, _, _, _, _, _, _, _, _, _, rfl, rfl, by omega, by omega, fun b hb => ?_, ?_⟩
            · rw [hold2 b (by omega) fun hm => by have := (hx.mine hm).2; omega, hold b hb]
            · rw [hts]
              show RdS _ _ _ _ _
              rw [bcells_append]
              exact hr.mono (fun _ h => h) fun b _ h => by omega
          · simp only [hbj, Bool.not_true, if_true, Bool.false_eq_true, if_false, List.append_nil] at hts ⊢
            refine Wc.skip ?_
            simp only
            refine Wc.region (by simp [aopsL, awanted, aop1, aout, isAlloc, heavy, ↓alight_conv, ↓alight_len, ↓alight_idx, ↓alight_slc0, ↓alight_slcl, ↓alight_slch, alight, aheavy, aeval, ASt.put, mapOpt, free, freeN, New.val, goInt, CP, abin_add, hwj2]; rfl) ?_
            simp only
            exact ⟨n - (j + 1), by omega, j + 1, x, Hs, _, _, _, _, _, _, _, _, _, _, _, _, _, _, _, _, _, _, _, _, _, _, _, _, _, _, _, _, rfl, rfl, by omega, hsz, hold, by rw [hts]; exact hx⟩
        · simp only [hlt, decide_false, Bool.false_eq_true, if_false]
          refine Wc.exit ?_
          simp only [if_true]
          obtain rfl : j = n := by omega
          -- the line's blocks
          have hbo : bo < H.size := (Array.getElem?_eq_some_iff.1 A.ho).1
          have hbh : bh < H.size := (Array.getElem?_eq_some_iff.1 A.hh).1
          obtain ⟨B, hB⟩ : ∃ B, B = Hs.size := ⟨_, rfl⟩
          let G1 : AHeap := (holes Hs 2).setIfInBounds B (.cells [] (.rw 1))
          have hG1s : G1.size = B + 2 := by simp [G1, holes, hB]
          have hG1 : ∀ b, b < B → G1[b]? = Hs[b]? := fun b hb => by
            simp only [G1]
            rw [Array.getElem?_setIfInBounds, if_neg (by omega)]
            unfold holes
            rw [Array.getElem?_append, if_pos (by omega)]
          have hG1B : G1[B]? = some (.cells [] (.rw 1)) := by simp [G1, holes, hB]
          have hG1C : G1[B + 1]? = some .hole := by
            simp only [G1]
            rw [Array.getElem?_setIfInBounds, if_neg (by omega)]
            unfold holes
            rw [Array.getElem?_append, if_neg (by omega), hB]
            simp
          have hx1 : RdB G1 own1 (fun b => b < B) x (tabs h j) := (hx.mono (st' := own1) (at' := fun b => b < B) (fun _ h => h) (fun b hb _ => by omega)).frame fun b _ hb => hG1 b hb
          have hs1 : RdS G1 own1 (fun b => b = B) (.slice (some (at0 B)) 0 0) [] := .inr ⟨B, 0, 0, [], .rw 1, rfl, Nat.le_refl _, rfl, hG1B, rfl, by simp, rfl⟩
          have htl := tabs_length h j
          obtain ⟨r1, G2, ha1, hr1, hG2s, hG2⟩ := S47.more hs1 hx1 (fun _ => own1.alive) rfl (bcells_ok _) (by simp [bcells_length, room]; omega)
          have hG2' : ∀ b, b < B + 2 → b ≠ B → G2[b]? = G1[b]? := fun b hb hne => hG2 b (by omega) (by rintro ⟨_, _, _, e1, e2⟩; cases e1; exact hne e2.symm)
          have hl2 : RdB G2 any1 (fun b => b < B) line l := ((hl.mono (st' := any1) (at' := fun b => b < H.size) (fun _ h => h) (fun b hb _ => hb)).frame (H' := Hs) fun b _ hb => hold b hb) |>.mono (fun _ h => h) (fun b hb _ => by omega) |>.frame
            fun b _ hb => by rw [hG2' b (by omega) (by omega), hG1 b hb]
          rw [List.nil_append] at hr1
          have hr1' : RdS G2 own1 (fun b => b = B ∨ b = B + 2) r1 (bcells (tabs h j)) := hr1.mono (fun _ h => h) fun b _ h => by omega
          obtain ⟨r2, G3, ha2, hr2, hG3s, hG3⟩ := S47.more hr1' hl2 (fun _ => any1.alive) (bcells_ok _) (bcells_ok _) (by simp [bcells_length, room]; omega)
          have hG3' : ∀ b, b < B + 2 → b ≠ B → G3[b]? = G2[b]? := fun b hb hne => hG3 b (by omega) (fun hm => by have := (hr1'.mine hm).2; omega)
          have hr2' : RdS G3 own1 (fun b => B ≤ b ∧ b ≠ B + 1) r2 (bcells (tabs h j ++ l)) := by
            rw [bcells_append]
            exact hr2.mono (fun _ h => h) fun b _ h => by omega
          have hG3C : G3[B + 1]? = some .hole := by rw [hG3' _ (by omega) (by omega), hG2' _ (by omega) (by omega), hG1C]
          let G4 : AHeap := G3.setIfInBounds (B + 1) (.cells [r2] (.rw 1))
          have hG4s : G4.size = G3.size := by simp [G4]
          have hG4 : ∀ b, b ≠ B + 1 → G4[b]? = G3[b]? := fun b hb => by simp only [G4]; rw [Array.getElem?_setIfInBounds, if_neg (Ne.symm hb)]
          have hG4C : G4[B + 1]? = some (.cells [r2] (.rw 1)) := by simp only [G4]; rw [Array.getElem?_setIfInBounds, if_pos rfl, if_pos (by omega)]
          have hG4o : ∀ b, b < B → G4[b]? = Hs[b]? := fun b hb => by rw [hG4 b (by omega), hG3' b (by omega) (by omega), hG2' b (by omega) (by omega), hG1 b hb]
          have hx4 : RdS G4 own1 (fun b => b = B + 1) (.slice (some (at0 (B + 1))) 1 1) [r2] := .inr ⟨B + 1, 0, 1, [r2], .rw 1, rfl, Nat.le_refl _, rfl, hG4C, rfl, by simp, rfl⟩
          have hNB : N ≤ B := by have := A.size; omega
          have hG4bo : G4[bo]? = some (.cells [out] (.rw 0)) := (hG4o bo (by omega)).trans ((hold bo hbo).trans A.ho)
          have hlines : RdL G4 own1 (fun b => N ≤ b ∧ b < H.size) (fun b => N ≤ b ∧ b < H.size ∧ ¬ Mine out b ∧ b ≠ bo ∧ b ≠ bh) out ls :=
            (A.lines.mono1 (at' := fun b => N ≤ b ∧ b < H.size) (at2' := fun b => N ≤ b ∧ b < H.size ∧ ¬ Mine out b ∧ b ≠ bo ∧ b ≠ bh) (fun b c hc hb => ⟨hb, (Array.getElem?_eq_some_iff.1 hc).1⟩)
              (fun b c hc hb => ⟨hb.1, (Array.getElem?_eq_some_iff.1 hc).1, hb.2, (by rintro rfl; rw [A.ho] at hc; cases hc), (by rintro rfl; rw [A.hh] at hc; cases hc)⟩)).frame
              (fun b _ hb => (hG4o b (by omega)).trans (hold b hb.2)) (fun b _ hb => (hG4o b (by omega)).trans (hold b hb.2.1))
          obtain ⟨vs, hvs, hvl, hvr⟩ := hlines
          obtain ⟨r3, G5, ha3, hr3, hG5s, hG5⟩ := S22.more hvs hx4 (fun _ => own1.alive) (RdL.okc hvl hvr) (by simp [hr2.one.2]) (by simp [room]; omega)
          have hr3' : RdS G5 own1 (fun b => b = G4.size) r3 (vs ++ [r2]) := hr3.mono (fun _ h => h) fun b _ h => by rcases h with ⟨_, h⟩ | h; cases h; exact h
          have hout : ∀ b, Mine out b → b < H.size ∧ b ≠ bo ∧ b ≠ bh := fun b hm => by
            obtain ⟨cs, hc⟩ := RdS.mine_own A.lines.choose_spec.1 hm
            exact ⟨(Array.getElem?_eq_some_iff.1 hc).1, (by rintro rfl; rw [A.ho] at hc; cases hc), (by rintro rfl; rw [A.hh] at hc; cases hc)⟩
          have hG5bo : G5[bo]? = some (.cells [out] (.rw 0)) := (hG5 bo (by omega) fun hm => (hout bo hm).2.1 rfl).trans hG4bo
          let G6 : AHeap := G5.setIfInBounds bo (.cells [r3] (.rw 0))
          have hst : astore Tryd.prog G5 22 (at0 bo) r3 = some G6 := by
            simp [astore, sz22, hr3.one.1, AHeap.store, at0, hG5bo, hr3.one.2, blit, G6]
          have hG6 : ∀ b, b ≠ bo → G6[b]? = G5[b]? := fun b hb => by simp only [G6]; rw [Array.getElem?_setIfInBounds, if_neg (Ne.symm hb)]
          have hlo : aload Tryd.prog (holes Hs 2) 22 (at0 bo) = some out := by
            have : (holes Hs 2)[bo]? = some (.cells [out] (.rw 0)) := by
              unfold holes
              rw [Array.getElem?_append, if_pos (by omega)]
              exact (hold bo hbo).trans A.ho
            simp [aload, ag22, at0, cell?_eq this]
          have hhB : (holes Hs 2)[B]? = some .hole := by unfold holes; rw [Array.getElem?_append, if_neg (by omega), hB]; simp
          have ha1e : aappend Tryd.prog ((holes Hs 2).setIfInBounds B (.cells [] (.rw 1))) 47 (.slice (some (at0 B)) 0 0) x = some (r1, G2) := ha1
          have ha3e : aappend Tryd.prog (G3.setIfInBounds (B + 1) (.cells [r2] (.rw 1))) 22 out (.slice (some (at0 (B + 1))) 1 1) = some (r3, G5) := ha3
          refine Wc.drawG (by kernel_rfl) (rk := [0, 0, 1, 1, 1, 1, 1, 2, 2]) (by kernel_rfl) (N := 2) (by kernel_rfl) (prs := [(0, 3), (0, 5), (6, 3), (6, 5)]) (by kernel_rfl) (lks := [0]) (by kernel_rfl)
            (by simp [aopsL, awanted, aop1, aout, isAlloc, heavy, ↓alight_conv, ↓alight_len, ↓alight_idx, ↓alight_slc0, ↓alight_slcl, ↓alight_slch, alight, aheavy, aeval, ASt.put, mapOpt, free, freeN, New.val, goInt, CP, atraceL, ← hB, hlo, S47.new0, S22.new1, hr2.new1V, hhB, ha1e, ha2, ha3e, hG3C, hst, un47, un22]; rfl) ?_ ?_ rfl ?_
          · have e1 : ((holes Hs 2).setIfInBounds Hs.size (.cells [] (.rw 1)))[bo]? = some (.cells [out] (.rw 0)) := hB ▸ (hG1 bo (by omega)).trans ((hold bo hbo).trans A.ho)
            have e2 : ((holes Hs 2).setIfInBounds Hs.size (.cells [] (.rw 1)))[Hs.size + 1]? = some .hole := hB ▸ hG1C
            have e3 : G2[bo]? = some (.cells [out] (.rw 0)) := by rw [hG2' bo (by omega) (by omega), hG1 bo (by omega), hold bo hbo, A.ho]
            have e4 : G3[bo]? = some (.cells [out] (.rw 0)) := by rw [hG3' bo (by omega) (by omega), e3]
            have e5 : G2[Hs.size + 1]? = some .hole := by rw [← hB, hG2' _ (by omega) (by omega), hG1C]
            subst hB
            simp [chkP, awanted, isAlloc, areads, aeval, at0, e1, e2, e3, e4, e5, obeq_refl, isHole, CP]
          · simp [chkL, awanted, areads, aeval, at0]
            omega
          · simp only
            refine ⟨.ret (.tuple #[]) G6, by simp [leave, takeAll, mapOpt, oneOr, G6], G6, r3, rfl, ?_⟩
            have hne : bh ≠ bo := by
              rintro rfl
              have h1 := A.hh.symm.trans A.ho
              obtain ⟨a, c, h2⟩ := A.lines.choose_spec.1.shape
              rw [h2] at h1
              cases h1
            have hsz6 : G6.size = G5.size := by simp [G6]
            have hrow2 : RdB G6 own1 (fun b => N ≤ b ∧ b < G4.size) r2 (tabs h j ++ l) :=
              ((hr2'.mono (st' := own1) (at' := fun b => (N ≤ b ∧ b < G4.size) ∧ B ≤ b ∧ b ≠ B + 1) (fun _ h => h) (fun b hb h => ⟨⟨by omega, by omega⟩, h⟩)).frame (H' := G4) (fun b _ hb => hG4 b hb.2.2)
                |>.frame (H' := G5) (fun b hb h => hG5 b hb fun hm => by have := (hout b hm).1; omega) |>.frame (H' := G6) (fun b _ h => hG6 b (by omega))) |>.mono (fun _ h => h) fun b _ h => h.1
            refine ⟨A.nh, A.no, ?_, ?_, ⟨vs ++ [r2], ?_, by simp [hvl], fun i y m hy hm => ?_⟩, fun b hb => ?_, by omega⟩
            · rw [hG6 bh hne, hG5 bh (by omega) fun hm => (hout bh hm).2.2 rfl, hG4o bh (by omega), hold bh hbh, A.hh]
            · simp only [G6]
              rw [Array.getElem?_setIfInBounds, if_pos rfl, if_pos (by omega)]
            · exact (hr3'.frame (H' := G6) fun b hb h => hG6 b (by omega)).mono (fun _ h => h) fun b _ h => by omega
            · have hm3 : ∀ b, b < G4.size → ¬ Mine r3 b := fun b hb hm => by have := (hr3'.mine hm).2; omega
              by_cases hi : i < vs.length
              · rw [List.getElem?_append_left hi] at hy
                rw [List.getElem?_append_left (by omega)] at hm
                exact ((hvr i y m hy hm).frame (H' := G5) (fun b hb h => hG5 b hb h.2.2.1) |>.frame (H' := G6) (fun b _ h => hG6 b h.2.2.2.1)).mono (fun _ h => h) fun b _ h => ⟨h.1, hm3 b (by omega)⟩
              · have hi' : i = vs.length := by
                  have := (List.getElem?_eq_some_iff.1 hy).1
                  simp at this; omega
                subst hi'
                rw [List.getElem?_append_right (Nat.le_refl _), Nat.sub_self] at hy
                rw [hvl, List.getElem?_append_right (Nat.le_refl _), Nat.sub_self] at hm
                simp only [List.getElem?_cons_zero, Option.some.injEq] at hy hm
                subst hy; subst hm
                exact hrow2.mono (fun _ h => h) fun b _ h => ⟨h.1, hm3 b h.2⟩
            · have hno := A.no
              rw [hG6 b (by omega), hG5 b (by omega) (fun hm => by have := (A.lines.mine hm).2; omega), hG4o b (by omega), hold b (by omega), A.old b hb]
    · simp only [if_true]
      refine Wc.ret ?_
      simp only
      exact ⟨_, by simp [leave, takeAll, mapOpt, oneOr], H, out, rfl, A⟩
  obtain ⟨rep, h1, H', out', rfl, h2⟩ := key
  exact ⟨H', out', h1, h2⟩
end Go.Eng.R16

namespace Go.Eng.R16
open Go Go.Eng Go.Proofs

def told (h : Int) (n : Nat) (l : List UInt8) : List (List UInt8) := if bit h n then [] else [tabs h n ++ l]

/-- Two lists in columns. -/
def commS (h : Int) : List (List UInt8) → List (List UInt8) → List (List UInt8)
  | [], [] => []
  | [], y :: ms => told h 1 y ++ commS h [] ms
  | x :: ls, [] => told h 0 x ++ commS h ls []
  | x :: ls, y :: ms =>
    if Lib.compareBytes x y < 0 then told h 0 x ++ commS h ls (y :: ms)
    else if 0 < Lib.compareBytes x y then told h 1 y ++ commS h (x :: ls) ms
    else told h 2 x ++ commS h ls ms
termination_by ls ms => ls.length + ms.length

theorem zeroT22 : zeroT Tryd.prog 22 = some (.slice none 0 0) := by kernel_rfl

theorem told_eq (h : Int) (n : Nat) (l : List UInt8) (ls : List (List UInt8)) : (if bit h n then ls else ls ++ [tabs h n ++ l]) = ls ++ told h n l := by
  unfold told; cases bit h n <;> simp

/-- The list's first line, and the others. -/
theorem consL {H : AHeap} {a1 a2 : Nat → Prop} {v : Value} {l : List UInt8} {ls : List (List UInt8)} (hv : RdL H any1 a1 a2 v (l :: ls)) :
    ∃ x ad r, (∀ k, idxB Tryd.prog 22 v (.int k 0) = some (.pointer (some ad))) ∧ aload Tryd.prog H 47 ad = some x ∧ RdB H any1 a2 x l ∧ (∀ k, slcB Tryd.prog H 22 v (some (.int k 1)) none = some r) ∧ RdL H any1 a1 a2 r ls := by
  obtain ⟨vs, q1, q2, q3⟩ := hv
  match vs, q2 with
  | x :: vs, q2 =>
    obtain ⟨ad, h1, h2⟩ := idxB_of q1 (fun _ => any1.alive) un22 sz47 ag47 (i := 0) (x := x) rfl
    obtain ⟨r, h3, h4⟩ := slcB_lo q1 (fun _ h => h) el22 sz47 (l := 1) (by simp)
    exact ⟨x, ad, r, h1, h2, q3 0 x l rfl rfl, h3, vs, by simpa using h4, by simpa using q2, fun i y m hy hm => q3 (i + 1) y m (by simpa using hy) (by simpa using hm)⟩

theorem lenL {H : AHeap} {st : St → Prop} {a1 a2 : Nat → Prop} {v : Value} {ls : List (List UInt8)} (hv : RdL H st a1 a2 v ls) : lenB Tryd.prog 22 v = some (.int .i64 ls.length) := by
  obtain ⟨vs, q1, q2, q3⟩ := hv
  rw [lenB_of q1 un22, q2]

theorem comm (H : AHeap) (u v : Value) (h : Int) (ls ms : List (List UInt8)) (a1 a2 b1 b2 : Nat → Prop) (hu : RdL H any1 a1 a2 u ls) (hv : RdL H any1 b1 b2 v ms)
    (hls : ls.length ≤ 1048576) (hms : ms.length ≤ 1048576) (hl : ∀ l ∈ ls, l.length ≤ 1048576) (hm : ∀ l ∈ ms, l.length ≤ 1048576) :
    ∃ r H', evw C (.call 7 [u, v, .int .i64 h] H) = some (.ret r H') ∧ H.size ≤ H'.size ∧ (∀ b, b < H.size → H'[b]? = H[b]?) ∧
      RdL H' own1 (fun b => H.size ≤ b) (fun b => H.size ≤ b ∧ ¬ Mine r b) r (commS h ls ms) := by
  have key : ∃ rep, evw C (.call 7 [u, v, .int .i64 h] H) = some rep ∧ ∃ r H', rep = .ret r H' ∧ H.size ≤ H'.size ∧ (∀ b, b < H.size → H'[b]? = H[b]?) ∧
      RdL H' own1 (fun b => H.size ≤ b) (fun b => H.size ≤ b ∧ ¬ Mine r b) r (commS h ls ms) := by
    refine call_of (by simp [C]) Tryd.func7 rfl ?_
    simp only [Tryd.f7, List.length_cons, List.length_nil, Nat.reduceAdd, Nat.reduceSub, List.replicate, List.cons_append, List.nil_append]
    refine Wc.seq (Wc.region (by simp [aopsL, awanted, aop1, aout, isAlloc, heavy, ↓alight_conv, ↓alight_len, ↓alight_idx, ↓alight_slc0, ↓alight_slcl, ↓alight_slch, alight, aheavy, aeval, ASt.put, mapOpt, free, freeN, New.val, goInt, CP, aalloc, vcells, Value.cells, cellOk]; rfl) ?_)
    simp only
    refine Wc.seq (Wc.region (by simp [aopsL, awanted, aop1, aout, isAlloc, heavy, ↓alight_conv, ↓alight_len, ↓alight_idx, ↓alight_slc0, ↓alight_slcl, ↓alight_slch, alight, aheavy, aeval, ASt.put, mapOpt, free, freeN, New.val, goInt, CP, aalloc, zeroT22, vcells, Value.cells, cellOk]; rfl) ?_)
    simp only
    refine Wc.seq (Wc.region (by simp [aopsL, awanted, aop1, aout, isAlloc, heavy, ↓alight_conv, ↓alight_len, ↓alight_idx, ↓alight_slc0, ↓alight_slcl, ↓alight_slch, alight, aheavy, aeval, ASt.put, mapOpt, free, freeN, New.val, goInt, CP]; rfl) ?_)
    simp only
    refine Wc.seq (Wc.block (Wc.loop (fun k s => ∃ (u' v' : Value) (out : Value) (acc lr mr : List (List UInt8)), s.tmps.length = 62 ∧ s.tmps[0]? = some u' ∧ s.tmps[1]? = some v' ∧ s.tmps[2]? = some (.int .i64 h) ∧ s.tmps[5]? = some (.pointer (some (at0 H.size))) ∧ s.tmps[7]? = some (.pointer (some (at0 (H.size + 1)))) ∧
      s.tmps[8]? = some (.func (.func 18) ⟨[]⟩ ⟨[.pointer (some (at0 H.size)), .pointer (some (at0 (H.size + 1)))]⟩) ∧ s.dfs = [] ∧
      k = lr.length + mr.length ∧ Acc H.size H.size (H.size + 1) h H s.H out acc ∧ acc ++ commS h lr mr = commS h ls ms ∧ acc.length + lr.length + mr.length ≤ ls.length + ms.length ∧
      RdL s.H any1 (fun b => b < H.size) (fun b => b < H.size) u' lr ∧ RdL s.H any1 (fun b => b < H.size) (fun b => b < H.size) v' mr ∧ (∀ l ∈ lr, l.length ≤ 1048576) ∧ (∀ l ∈ mr, l.length ≤ 1048576)) (ls.length + ms.length) ?_ ?_))
    · have hold0 : ∀ b, b < H.size → ((H.push (.cells [.int .i64 h] (.rw 0))).push (.cells [.slice none 0 0] (.rw 0)))[b]? = H[b]? := fun b hb => by
        rw [Array.getElem?_push, if_neg (by simp; omega), Array.getElem?_push, if_neg (by omega)]
      refine ⟨u, v, .slice none 0 0, [], ls, ms, rfl, rfl, rfl, rfl, rfl, rfl, rfl, rfl, rfl, ?_, rfl, by simp, ?_, ?_, hl, hm⟩
      · refine ⟨Nat.le_refl _, Nat.le_succ _, ?_, ?_, RdL.nil, fun b hb => hold0 b hb, by simp; omega⟩
        · rw [Array.getElem?_push, if_neg (by simp), Array.getElem?_push, if_pos rfl]
        · rw [Array.getElem?_push, if_pos (by simp)]
      · exact (hu.mono (st' := any1) (at' := fun b => b < H.size) (at2' := fun b => b < H.size) (fun _ h => h) (fun b hb _ => hb) (fun b hb _ => hb)).frame (fun b hb _ => hold0 b hb) (fun b hb _ => hold0 b hb)
      · exact (hv.mono (st' := any1) (at' := fun b => b < H.size) (at2' := fun b => b < H.size) (fun _ h => h) (fun b hb _ => hb) (fun b hb _ => hb)).frame (fun b hb _ => hold0 b hb) (fun b hb _ => hold0 b hb)
    · rintro k ⟨tmps, Hs, dfs⟩ ⟨u', v', out, acc, lr, mr, h62, g0, g1, g2, g5, g7, g8, rfl, rfl, A, hacc, hlen, hu', hv', hl', hm'⟩
      simp only at h62 g0 g1 g2 g5 g7 g8 A hu' hv'
      obtain ⟨y, rfl, hy⟩ := slots 62 tmps h62
      rw [hy _ (by decide)] at g0 g1 g2 g5 g7 g8
      simp only [Option.some.injEq] at g0 g1 g2 g5 g7 g8
      subst g0 g1
      have hlu := lenL hu'
      have hlv := lenL hv'
      have hcall : ∀ (n : Nat) (line : Value) (l : List UInt8), n < 3 → RdB Hs any1 (fun b => b < H.size) line l → l.length ≤ 1048576 →
          ∃ H' out', evw C (.call 18 [.int .i64 ((n : Int) + 1), line, .pointer (some (at0 H.size)), .pointer (some (at0 (H.size + 1)))] Hs) = some (.ret (.tuple #[]) H') ∧
            Acc H.size H.size (H.size + 1) h H H' out' (acc ++ told h n l) := fun n line l hn hb hlb => by
        obtain ⟨H', out', h1, h2⟩ := tell H.size H.size (H.size + 1) h H Hs out line acc l _ n hn hb hlb (by omega) A
        rw [told_eq] at h2
        exact ⟨H', out', h1, h2⟩
      have hmove : ∀ {H' : AHeap} {out' : Value} {acc' : List (List UInt8)}, Acc H.size H.size (H.size + 1) h H H' out' acc' → ∀ {x : Value} {l : List (List UInt8)}, RdL Hs any1 (fun b => b < H.size) (fun b => b < H.size) x l →
          RdL H' any1 (fun b => b < H.size) (fun b => b < H.size) x l := fun A' _ _ hx => hx.frame (fun b _ hb => (A'.old b hb).trans (A.old b hb).symm) (fun b _ hb => (A'.old b hb).trans (A.old b hb).symm)
      have hone : ∀ n l, (told h n l).length ≤ 1 := fun n l => by unfold told; split <;> simp
      simp only [List.range, List.range.loop, List.map_cons, List.map_nil, g2, g5, g7, g8]
      match lr, mr with
      | [], [] =>
        simp only [List.length_nil, Int.natCast_zero] at hlu hlv
        refine Wc.seq (Wc.seq (Wc.region (by simp [aopsL, awanted, aop1, aout, isAlloc, heavy, ↓alight_conv, ↓alight_len, ↓alight_idx, ↓alight_slc0, ↓alight_slcl, ↓alight_slch, alight, aheavy, aeval, ASt.put, mapOpt, free, freeN, New.val, goInt, CP, hlu, hlv, abin_gtr]; rfl) ?_))
        simp only
        refine Wc.cond (t := false) (by simp [aeval]) ?_
        simp only [Bool.false_eq_true, if_false]
        refine Wc.exit ?_
        simp only [if_true]
        have hldo : aload Tryd.prog Hs 22 (at0 (H.size + 1)) = some out := by simp [aload, ag22, at0, cell?_eq A.ho]
        refine Wc.seq (Wc.region (by simp [aopsL, awanted, aop1, aout, isAlloc, heavy, ↓alight_conv, ↓alight_len, ↓alight_idx, ↓alight_slc0, ↓alight_slcl, ↓alight_slch, alight, aheavy, aeval, ASt.put, mapOpt, free, freeN, New.val, goInt, CP, hldo]; rfl) ?_)
        simp only
        refine Wc.ret ?_
        simp only
        refine ⟨.ret out Hs, by simp [leave, takeAll, mapOpt, aresult, oneOr], out, Hs, rfl, A.size, A.old, ?_⟩
        rw [← hacc, commS, List.append_nil]
        exact A.lines
      | [], z :: mr =>
        simp only [List.length_nil, List.length_cons, Int.natCast_zero] at hlu hlv
        obtain ⟨xz, ad, _, hix, hld, hrow, _, _⟩ := consL hv'
        have hp : (0 : Int) < (mr.length : Int) + 1 := by omega
        refine Wc.seq (Wc.seq (Wc.region (by simp [aopsL, awanted, aop1, aout, isAlloc, heavy, ↓alight_conv, ↓alight_len, ↓alight_idx, ↓alight_slc0, ↓alight_slcl, ↓alight_slch, alight, aheavy, aeval, ASt.put, mapOpt, free, freeN, New.val, goInt, CP, hlu, hlv, abin_gtr, hp]; rfl) ?_))
        simp only
        refine Wc.cond (t := true) (by simp [aeval]) ?_
        simp only [if_true]
        refine Wc.skip ?_
        simp only
        refine Wc.block (Wc.seq (Wc.region (by simp [aopsL, awanted, aop1, aout, isAlloc, heavy, ↓alight_conv, ↓alight_len, ↓alight_idx, ↓alight_slc0, ↓alight_slcl, ↓alight_slch, alight, aheavy, aeval, ASt.put, mapOpt, free, freeN, New.val, goInt, CP]; rfl) ?_))
        simp only
        refine Wc.seq (Wc.seq (Wc.region (by simp [aopsL, awanted, aop1, aout, isAlloc, heavy, ↓alight_conv, ↓alight_len, ↓alight_idx, ↓alight_slc0, ↓alight_slcl, ↓alight_slch, alight, aheavy, aeval, ASt.put, mapOpt, free, freeN, New.val, goInt, CP, hlu, abin_eql]; rfl) ?_))
        simp only
        refine Wc.cond (t := true) (by simp [aeval]) ?_
        simp only [if_true]
        refine Wc.region (by simp [aopsL, awanted, aop1, aout, isAlloc, heavy, ↓alight_conv, ↓alight_len, ↓alight_idx, ↓alight_slc0, ↓alight_slcl, ↓alight_slch, alight, aheavy, aeval, ASt.put, mapOpt, free, freeN, New.val, goInt, CP]; rfl) ?_
        simp only
        refine Wc.block (Wc.seq (Wc.region (by simp [aopsL, awanted, aop1, aout, isAlloc, heavy, ↓alight_conv, ↓alight_len, ↓alight_idx, ↓alight_slc0, ↓alight_slcl, ↓alight_slch, alight, aheavy, aeval, ASt.put, mapOpt, free, freeN, New.val, goInt, CP, abin_lss]; rfl) ?_))
        simp only
        refine Wc.cond (t := false) (by simp [aeval]) ?_
        simp only [Bool.false_eq_true, if_false]
        refine Wc.seq (Wc.region (by simp [aopsL, awanted, aop1, aout, isAlloc, heavy, ↓alight_conv, ↓alight_len, ↓alight_idx, ↓alight_slc0, ↓alight_slcl, ↓alight_slch, alight, aheavy, aeval, ASt.put, mapOpt, free, freeN, New.val, goInt, CP, abin_gtr]; rfl) ?_)
        simp only
        refine Wc.cond (t := true) (by simp [aeval]) ?_
        simp only [if_true]
        obtain ⟨H', out', hc, A'⟩ := hcall 1 xz z (by decide) hrow (hm' z (by simp))
        have hc2 : evw C (.call 18 [.int .i64 2, xz, .pointer (some (at0 H.size)), .pointer (some (at0 (H.size + 1)))] Hs) = some (.ret (.tuple #[]) H') := hc
        have hu2 := hmove A' hu'
        obtain ⟨_, _, r', _, _, _, hslc', hv2⟩ := consL (hmove A' hv')
        refine Wc.seq (Wc.region (by simp [aopsL, awanted, aop1, aout, isAlloc, heavy, ↓alight_conv, ↓alight_len, ↓alight_idx, ↓alight_slc0, ↓alight_slcl, ↓alight_slch, alight, aheavy, aeval, ASt.put, mapOpt, free, freeN, New.val, goInt, CP, hix, hld, hc2]; rfl) ?_)
        simp only
        refine Wc.region (by simp [aopsL, awanted, aop1, aout, isAlloc, heavy, ↓alight_conv, ↓alight_len, ↓alight_idx, ↓alight_slc0, ↓alight_slcl, ↓alight_slch, alight, aheavy, aeval, ASt.put, mapOpt, free, freeN, New.val, goInt, CP, hslc']; rfl) ?_
        have h1 := hone 1 z
        refine ⟨mr.length, by simp, y 0, r', out', acc ++ told h 1 z, [], mr, rfl, rfl, rfl, rfl, rfl, rfl, rfl, rfl, by simp, A', ?_, ?_, hu2, hv2, hl', fun l hl => hm' l (by simp [hl])⟩
        · rw [← hacc, commS, List.append_assoc]
        · simp at hlen ⊢; omega
      | x :: lr, [] =>
        simp only [List.length_nil, List.length_cons, Int.natCast_zero] at hlu hlv
        obtain ⟨xx, ad, _, hix, hld, hrow, _, _⟩ := consL hu'
        have hp : (0 : Int) < (lr.length : Int) + 1 := by omega
        have hq : ¬ (lr.length : Int) + 1 = 0 := by omega
        refine Wc.seq (Wc.seq (Wc.region (by simp [aopsL, awanted, aop1, aout, isAlloc, heavy, ↓alight_conv, ↓alight_len, ↓alight_idx, ↓alight_slc0, ↓alight_slcl, ↓alight_slch, alight, aheavy, aeval, ASt.put, mapOpt, free, freeN, New.val, goInt, CP, hlu, hlv, abin_gtr, hp]; rfl) ?_))
        simp only
        refine Wc.cond (t := true) (by simp [aeval]) ?_
        simp only [if_true]
        refine Wc.skip ?_
        simp only
        refine Wc.block (Wc.seq (Wc.region (by simp [aopsL, awanted, aop1, aout, isAlloc, heavy, ↓alight_conv, ↓alight_len, ↓alight_idx, ↓alight_slc0, ↓alight_slcl, ↓alight_slch, alight, aheavy, aeval, ASt.put, mapOpt, free, freeN, New.val, goInt, CP]; rfl) ?_))
        simp only
        refine Wc.seq (Wc.seq (Wc.region (by simp [aopsL, awanted, aop1, aout, isAlloc, heavy, ↓alight_conv, ↓alight_len, ↓alight_idx, ↓alight_slc0, ↓alight_slcl, ↓alight_slch, alight, aheavy, aeval, ASt.put, mapOpt, free, freeN, New.val, goInt, CP, hlu, abin_eql, hq]; rfl) ?_))
        simp only
        refine Wc.cond (t := false) (by simp [aeval]) ?_
        simp only [Bool.false_eq_true, if_false]
        refine Wc.seq (Wc.region (by simp [aopsL, awanted, aop1, aout, isAlloc, heavy, ↓alight_conv, ↓alight_len, ↓alight_idx, ↓alight_slc0, ↓alight_slcl, ↓alight_slch, alight, aheavy, aeval, ASt.put, mapOpt, free, freeN, New.val, goInt, CP, hlv, abin_gtr]; rfl) ?_)
        simp only
        refine Wc.cond (t := false) (by simp [aeval]) ?_
        simp only [Bool.false_eq_true, if_false]
        refine Wc.skip ?_
        simp only
        refine Wc.block (Wc.seq (Wc.region (by simp [aopsL, awanted, aop1, aout, isAlloc, heavy, ↓alight_conv, ↓alight_len, ↓alight_idx, ↓alight_slc0, ↓alight_slcl, ↓alight_slch, alight, aheavy, aeval, ASt.put, mapOpt, free, freeN, New.val, goInt, CP, abin_lss]; rfl) ?_))
        simp only
        refine Wc.cond (t := true) (by simp [aeval]) ?_
        simp only [if_true]
        obtain ⟨H', out', hc, A'⟩ := hcall 0 xx x (by decide) hrow (hl' x (by simp))
        have hc2 : evw C (.call 18 [.int .i64 1, xx, .pointer (some (at0 H.size)), .pointer (some (at0 (H.size + 1)))] Hs) = some (.ret (.tuple #[]) H') := hc
        have hv2 := hmove A' hv'
        obtain ⟨_, _, r', _, _, _, hslc', hu2⟩ := consL (hmove A' hu')
        refine Wc.seq (Wc.region (by simp [aopsL, awanted, aop1, aout, isAlloc, heavy, ↓alight_conv, ↓alight_len, ↓alight_idx, ↓alight_slc0, ↓alight_slcl, ↓alight_slch, alight, aheavy, aeval, ASt.put, mapOpt, free, freeN, New.val, goInt, CP, hix, hld, hc2]; rfl) ?_)
        simp only
        refine Wc.region (by simp [aopsL, awanted, aop1, aout, isAlloc, heavy, ↓alight_conv, ↓alight_len, ↓alight_idx, ↓alight_slc0, ↓alight_slcl, ↓alight_slch, alight, aheavy, aeval, ASt.put, mapOpt, free, freeN, New.val, goInt, CP, hslc']; rfl) ?_
        have h1 := hone 0 x
        refine ⟨lr.length, by simp, r', y 1, out', acc ++ told h 0 x, lr, [], rfl, rfl, rfl, rfl, rfl, rfl, rfl, rfl, by simp, A', ?_, ?_, hu2, hv2, fun l hl => hl' l (by simp [hl]), hm'⟩
        · rw [← hacc, commS, List.append_assoc]
        · simp at hlen ⊢; omega
      | x :: lr, z :: mr =>
        simp only [List.length_cons] at hlu hlv
        obtain ⟨xx, ad, _, hix, hld, hrow, _, _⟩ := consL hu'
        obtain ⟨xz, adz, _, hiz, hlz, hroz, _, _⟩ := consL hv'
        have hp : (0 : Int) < (lr.length : Int) + 1 := by omega
        have hpz : (0 : Int) < (mr.length : Int) + 1 := by omega
        have hq : ¬ (lr.length : Int) + 1 = 0 := by omega
        have hcmp := compare hrow hroz (fun _ => any1.alive) (fun _ => any1.alive)
        refine Wc.seq (Wc.seq (Wc.region (by simp [aopsL, awanted, aop1, aout, isAlloc, heavy, ↓alight_conv, ↓alight_len, ↓alight_idx, ↓alight_slc0, ↓alight_slcl, ↓alight_slch, alight, aheavy, aeval, ASt.put, mapOpt, free, freeN, New.val, goInt, CP, hlu, hlv, abin_gtr, hp]; rfl) ?_))
        simp only
        refine Wc.cond (t := true) (by simp [aeval]) ?_
        simp only [if_true]
        refine Wc.skip ?_
        simp only
        refine Wc.block (Wc.seq (Wc.region (by simp [aopsL, awanted, aop1, aout, isAlloc, heavy, ↓alight_conv, ↓alight_len, ↓alight_idx, ↓alight_slc0, ↓alight_slcl, ↓alight_slch, alight, aheavy, aeval, ASt.put, mapOpt, free, freeN, New.val, goInt, CP]; rfl) ?_))
        simp only
        refine Wc.seq (Wc.seq (Wc.region (by simp [aopsL, awanted, aop1, aout, isAlloc, heavy, ↓alight_conv, ↓alight_len, ↓alight_idx, ↓alight_slc0, ↓alight_slcl, ↓alight_slch, alight, aheavy, aeval, ASt.put, mapOpt, free, freeN, New.val, goInt, CP, hlu, abin_eql, hq]; rfl) ?_))
        simp only
        refine Wc.cond (t := false) (by simp [aeval]) ?_
        simp only [Bool.false_eq_true, if_false]
        refine Wc.seq (Wc.region (by simp [aopsL, awanted, aop1, aout, isAlloc, heavy, ↓alight_conv, ↓alight_len, ↓alight_idx, ↓alight_slc0, ↓alight_slcl, ↓alight_slch, alight, aheavy, aeval, ASt.put, mapOpt, free, freeN, New.val, goInt, CP, hlv, abin_gtr, hpz]; rfl) ?_)
        simp only
        refine Wc.cond (t := true) (by simp [aeval]) ?_
        simp only [if_true]
        refine Wc.draw (by kernel_rfl) (by simp [aopsL, awanted, aop1, aout, isAlloc, heavy, ↓alight_conv, ↓alight_len, ↓alight_idx, ↓alight_slc0, ↓alight_slcl, ↓alight_slch, alight, aheavy, aeval, ASt.put, mapOpt, free, freeN, New.val, goInt, CP, hix, hld, hiz, hlz, hcmp]; rfl) ?_
        simp only
        refine Wc.block (Wc.seq (Wc.region (by simp [aopsL, awanted, aop1, aout, isAlloc, heavy, ↓alight_conv, ↓alight_len, ↓alight_idx, ↓alight_slc0, ↓alight_slcl, ↓alight_slch, alight, aheavy, aeval, ASt.put, mapOpt, free, freeN, New.val, goInt, CP, abin_lss]; rfl) ?_))
        simp only
        refine Wc.cond (t := decide (Lib.compareBytes x z < 0)) (by simp [aeval]) ?_
        rw [commS] at hacc
        by_cases hlt : Lib.compareBytes x z < 0
        · simp only [hlt, decide_true, if_true] at hacc ⊢
          obtain ⟨H', out', hc, A'⟩ := hcall 0 xx x (by decide) hrow (hl' x (by simp))
          have hc2 : evw C (.call 18 [.int .i64 1, xx, .pointer (some (at0 H.size)), .pointer (some (at0 (H.size + 1)))] Hs) = some (.ret (.tuple #[]) H') := hc
          have hv2 := hmove A' hv'
          obtain ⟨_, _, r', _, _, _, hslc', hu2⟩ := consL (hmove A' hu')
          refine Wc.seq (Wc.region (by simp [aopsL, awanted, aop1, aout, isAlloc, heavy, ↓alight_conv, ↓alight_len, ↓alight_idx, ↓alight_slc0, ↓alight_slcl, ↓alight_slch, alight, aheavy, aeval, ASt.put, mapOpt, free, freeN, New.val, goInt, CP, hix, hld, hc2]; rfl) ?_)
          simp only
          refine Wc.region (by simp [aopsL, awanted, aop1, aout, isAlloc, heavy, ↓alight_conv, ↓alight_len, ↓alight_idx, ↓alight_slc0, ↓alight_slcl, ↓alight_slch, alight, aheavy, aeval, ASt.put, mapOpt, free, freeN, New.val, goInt, CP, hslc']; rfl) ?_
          have h1 := hone 0 x
          refine ⟨lr.length + (mr.length + 1), by simp only [List.length_cons]; omega, r', y 1, out', acc ++ told h 0 x, lr, z :: mr, rfl, rfl, rfl, rfl, rfl, rfl, rfl, rfl, by simp, A', ?_, ?_, hu2, hv2, fun l hl => hl' l (by simp [hl]), hm'⟩
          · rw [← hacc, List.append_assoc]
          · simp at hlen ⊢; omega
        · simp only [hlt, decide_false, Bool.false_eq_true, if_false] at hacc ⊢
          refine Wc.seq (Wc.region (by simp [aopsL, awanted, aop1, aout, isAlloc, heavy, ↓alight_conv, ↓alight_len, ↓alight_idx, ↓alight_slc0, ↓alight_slcl, ↓alight_slch, alight, aheavy, aeval, ASt.put, mapOpt, free, freeN, New.val, goInt, CP, abin_gtr]; rfl) ?_)
          simp only
          refine Wc.cond (t := decide (0 < Lib.compareBytes x z)) (by simp [aeval]) ?_
          by_cases hgt : 0 < Lib.compareBytes x z
          · simp only [hgt, decide_true, if_true] at hacc ⊢
            obtain ⟨H', out', hc, A'⟩ := hcall 1 xz z (by decide) hroz (hm' z (by simp))
            have hc2 : evw C (.call 18 [.int .i64 2, xz, .pointer (some (at0 H.size)), .pointer (some (at0 (H.size + 1)))] Hs) = some (.ret (.tuple #[]) H') := hc
            have hu2 := hmove A' hu'
            obtain ⟨_, _, r', _, _, _, hslc', hv2⟩ := consL (hmove A' hv')
            refine Wc.seq (Wc.region (by simp [aopsL, awanted, aop1, aout, isAlloc, heavy, ↓alight_conv, ↓alight_len, ↓alight_idx, ↓alight_slc0, ↓alight_slcl, ↓alight_slch, alight, aheavy, aeval, ASt.put, mapOpt, free, freeN, New.val, goInt, CP, hiz, hlz, hc2]; rfl) ?_)
            simp only
            refine Wc.region (by simp [aopsL, awanted, aop1, aout, isAlloc, heavy, ↓alight_conv, ↓alight_len, ↓alight_idx, ↓alight_slc0, ↓alight_slcl, ↓alight_slch, alight, aheavy, aeval, ASt.put, mapOpt, free, freeN, New.val, goInt, CP, hslc']; rfl) ?_
            have h1 := hone 1 z
            refine ⟨(lr.length + 1) + mr.length, by simp only [List.length_cons]; omega, y 0, r', out', acc ++ told h 1 z, x :: lr, mr, rfl, rfl, rfl, rfl, rfl, rfl, rfl, rfl, by simp, A', ?_, ?_, hu2, hv2, hl', fun l hl => hm' l (by simp [hl])⟩
            · rw [← hacc, List.append_assoc]
            · simp at hlen ⊢; omega
          · simp only [hgt, decide_false, Bool.false_eq_true, if_false] at hacc ⊢
            obtain ⟨H', out', hc, A'⟩ := hcall 2 xx x (by decide) hrow (hl' x (by simp))
            have hc2 : evw C (.call 18 [.int .i64 3, xx, .pointer (some (at0 H.size)), .pointer (some (at0 (H.size + 1)))] Hs) = some (.ret (.tuple #[]) H') := hc
            obtain ⟨_, _, r1, _, _, _, hslc1, hu2⟩ := consL (hmove A' hu')
            obtain ⟨_, _, r2, _, _, _, hslc2, hv2⟩ := consL (hmove A' hv')
            refine Wc.seq (Wc.region (by simp [aopsL, awanted, aop1, aout, isAlloc, heavy, ↓alight_conv, ↓alight_len, ↓alight_idx, ↓alight_slc0, ↓alight_slcl, ↓alight_slch, alight, aheavy, aeval, ASt.put, mapOpt, free, freeN, New.val, goInt, CP, hix, hld, hc2]; rfl) ?_)
            simp only
            refine Wc.draw (by kernel_rfl) (by simp [aopsL, awanted, aop1, aout, isAlloc, heavy, ↓alight_conv, ↓alight_len, ↓alight_idx, ↓alight_slc0, ↓alight_slcl, ↓alight_slch, alight, aheavy, aeval, ASt.put, mapOpt, free, freeN, New.val, goInt, CP, hslc1, hslc2]; rfl) ?_
            have h1 := hone 2 x
            refine ⟨lr.length + mr.length, by simp only [List.length_cons]; omega, r1, r2, out', acc ++ told h 2 x, lr, mr, rfl, rfl, rfl, rfl, rfl, rfl, rfl, rfl, rfl, A', ?_, ?_, hu2, hv2, fun l hl => hl' l (by simp [hl]), fun l hl => hm' l (by simp [hl])⟩
            · rw [← hacc, List.append_assoc]
            · simp at hlen ⊢; omega
  obtain ⟨rep, h1, r, H', rfl, h2⟩ := key
  exact ⟨r, H', h1, h2⟩
end Go.Eng.R16
