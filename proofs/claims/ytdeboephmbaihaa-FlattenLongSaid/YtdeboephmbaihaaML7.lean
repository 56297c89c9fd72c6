/-
  FlattenLong holds: for every integer the function returns true, whatever the orders that the model draws; no condition is laid.
  The row's own step is the kit's shell for this function, turned to what is known of memory here (old blocks are as they were).
-/
import Derived.Test.YtdeboephmbaihaaXVTM
import Derived.Test.YtdeboephmbaihaaML3
import Derived.Test.YtdeboephmbaihaaML5
import Derived.Test.YtdeboephmbaihaaRows
import Derived.WalkKit
import Derived.ProofKit
import Derived.OpenShut
import Derived.Below
import Derived.ChangeSame
/- awake, by evaluation. -/
set_option maxRecDepth 100000
namespace Go.NL.Ev
open Go.Proofs

noncomputable def spK (F : FuncId) : Option (List AV → EH → (AV → EH → ER) → ER) := Bool.rec (motive := fun _ => Option (List AV → EH → (AV → EH → ER) → ER)) (Bool.rec (motive := fun _ => Option (List AV → EH → (AV → EH → ER) → ER)) (Bool.rec (motive := fun _ => Option (List AV → EH → (AV → EH → ER) → ER)) none (some sortSK) (Nat.beq F 56)) (some compSK) (Nat.beq F 57)) (some keysSK) (Nat.beq F 49)

theorem spK_ok : ∀ F s, spK F = some s → SpOk Try.prog F s := by
  intro F s h
  unfold spK at h
  by_cases h1 : F = 49
  · subst h1
    have h : some keysSK = some s := h
    cases h
    exact keysSK_ok
  · rw [show Nat.beq F 49 = false by rw [beq_dec]; simp [h1]] at h
    by_cases h2 : F = 57
    · subst h2
      have h : some compSK = some s := h
      cases h
      exact compSK_ok
    · rw [show Nat.beq F 57 = false by rw [beq_dec]; simp [h2]] at h
      by_cases h3 : F = 56
      · subst h3
        have h : some sortSK = some s := h
        cases h
        exact sortSK_ok
      · rw [show Nat.beq F 56 = false by rw [beq_dec]; simp [h3]] at h
        cases h

noncomputable def isTrueK (v : AV) (_ : EH) : ER := boolV v fun b => Bool.rec (motive := fun _ => ER) none (some ()) b
def H0 : EH := .mk 0 256 (.rep .gone)

theorem hdl_ok (n : Nat) : HdlOk Try.prog (callsK (codeOf codeT) spK n) := callsK_ok (codeT_ok.get) spK_ok n

theorem awake_run : callsK (codeOf codeT) spK 60 F_gimletlaw26_awake [] H0 isTrueK = some () := by kernel_rfl

/-- Nothing stands in memory that is the run's own. -/
def G0 : G := ⟨0, fun _ => none, fun _ _ _ => False⟩
theorem sim0 (w : World) : Sim G0 (fun _ => none) w :=
  ⟨fun b _ => ⟨rfl, rfl⟩, (fun b x h => by cases h), (fun b b' cb sh top sh' top' h => by cases h), (fun b cb sh top o v h => by cases h), (fun b cb sh top h => by cases h), (fun cb o v h => h.elim)⟩
theorem fits0 : Fits (fun _ => none) H0 (fun _ => none) :=
  ⟨(fun i b h => by cases h), ⟨by decide, by decide⟩, (fun i j b _ _ h => by cases h), (fun i b h => by cases h)⟩

theorem awake_ncalls : NCalls Try.prog F_gimletlaw26_awake [] (fun _ => none) fun v _ => v = .bool true := by
  refine hdl_ok 60 F_gimletlaw26_awake [] H0 isTrueK () awake_run (fun _ => none) [] _ _ .nil fits0 fun ρ' v H' v' A' _ hv _ hk => ?_
  obtain ⟨b, rfl, hb⟩ := boolV_some hk
  cases b
  · cases hb
  · exact vr_bool hv

theorem awake_pure : NPure Try.prog F_gimletlaw26_awake [] (.bool true) :=
  NCalls.pure awake_ncalls (fun g g' Vs h => ⟨h.len, fun i c v hc _ => by simp at hc⟩) fun g g' V h => by rw [rel_bool h]; exact .bool true

end Go.NL.Ev

/- FlattenLong: the walk, whole. -/
set_option linter.unusedVariables false
set_option linter.unusedSimpArgs false
set_option maxRecDepth 10000
namespace Go.NL
open Go.Proofs

theorem awake_spec : NPure Try.prog F_gimletlaw26_awake [] (.bool true) := Ev.awake_pure

def OutTrue (v : AV) (_ : Heap) : Prop := v = .bool true

theorem retTrue {f : Fr} {A : Heap} (h : f 2 = .bool true) : retP [.slot 2] OutTrue .ret f A := ⟨.bool true, by rw [resAV_one, h], A, .bool true, .refl _ _, rfl⟩

set_option maxHeartbeats 1000000 in
theorem FlattenLong_run (more : Int) : NCalls Try.prog F_gimletlaw26_FlattenLong [.int .i64 more] (fun _ => none) OutTrue := by
  refine NCalls.of_swp c_gimletlaw26_FlattenLong (Nat.le_of_ble_eq_true rfl) ?_
  have hbig : big = 1099511627776 := rfl
  simp only [n_gimletlaw26_FlattenLong]
  have hm : ∃ m : Nat, more % 5 = (m : Int) ∧ m < 5 := ⟨(more % 5).toNat, by omega, by omega⟩
  obtain ⟨m, hm, hm5⟩ := hm
  have hw1 : IntKind.i64.wrap (1024 + (m : Int)) = 1024 + m := i64w (by omega) (by omega)
  have hw2 : IntKind.i64.wrap (1024 + (m : Int) - 2) = ((1022 + m : Nat) : Int) := by rw [i64w (by omega) (by omega)]; omega
  have hn1 : 1 ≤ 1022 + m := by omega
  have hn2 : 1022 + m ≤ 2000 := by omega
  refine SWP.cut (fun f A => f 0 = .int .i64 more) (.of (nwp_region ?_)) ?_
  · simp only [n_gimletlaw26_FlattenLong_r0, go_sem, Nat.reduceEqDiff, Nat.reduceAdd, Nat.reduceSub, Nat.reduceLeDiff, Nat.reduceLT, Nat.reduceMul, Int.reduceEq, Int.reduceLT, Int.reduceLE, Int.reduceNeg, Int.reduceToNat, Int.reduceAdd, Int.reduceSub, Int.cast_ofNat_Int, Int.cast_ofNat_Int, reduceCtorEq, ↓reduceIte, Bool.false_eq_true, decide_true, decide_false, eq_self, Bool.not_true, Bool.not_false]
  intro f A h0
  refine SWP.cut (fun f A => f 3 = .int .i64 ((1022 + m : Nat) : Int)) (.of (nwp_region ?_)) ?_
  · have hp := Pick_spec more
    rw [hm] at hp
    simp only [n_gimletlaw26_FlattenLong_r1, h0, go_sem, Nat.reduceEqDiff, Nat.reduceAdd, Nat.reduceSub, Nat.reduceLeDiff, Nat.reduceLT, Nat.reduceMul, Int.reduceEq, Int.reduceLT, Int.reduceLE, Int.reduceNeg, Int.reduceToNat, Int.reduceAdd, Int.reduceSub, Int.cast_ofNat_Int, Int.cast_ofNat_Int, reduceCtorEq, ↓reduceIte, Bool.false_eq_true, decide_true, decide_false, eq_self, Bool.not_true, Bool.not_false]
    refine hp.call ?_
    simp only [hw1, hw2, go_sem, Nat.reduceEqDiff, Nat.reduceAdd, Nat.reduceSub, Nat.reduceLeDiff, Nat.reduceLT, Nat.reduceMul, Int.reduceEq, Int.reduceLT, Int.reduceLE, Int.reduceNeg, Int.reduceToNat, Int.reduceAdd, Int.reduceSub, Int.cast_ofNat_Int, Int.cast_ofNat_Int, reduceCtorEq, ↓reduceIte, Bool.false_eq_true, decide_true, decide_false, eq_self, Bool.not_true, Bool.not_false]
  clear h0
  generalize 1022 + m = n at *
  intro f A h3
  refine SWP.cut (fun f A => ∃ b4, f 3 = .int .i64 n ∧ f 4 = .ptr b4 0 ∧ A b4 = some (.cells (mainCells .nilslice))) (.of (nwp_region ?_)) ?_
  · simp only [n_gimletlaw26_FlattenLong_r2, go_sem, Nat.reduceEqDiff, Nat.reduceAdd, Nat.reduceSub, Nat.reduceLeDiff, Nat.reduceLT, Nat.reduceMul, Int.reduceEq, Int.reduceLT, Int.reduceLE, Int.reduceNeg, Int.reduceToNat, Int.reduceAdd, Int.reduceSub, Int.cast_ofNat_Int, Int.cast_ofNat_Int, reduceCtorEq, ↓reduceIte, Bool.false_eq_true, decide_true, decide_false, eq_self, Bool.not_true, Bool.not_false]
    intro b hb
    exact ⟨b, h3, rfl, by simp [mainCells]⟩
  clear h3
  rintro f A ⟨b4, h3, h4, hb4⟩
  refine SWP.cut (LongI n b4 n) (SWP.cut (LongI n b4 0) (.of (nwp_region ?_)) fun f A h => long_loop n hn2 h) ?_
  · simp only [n_gimletlaw26_FlattenLong_r3, go_sem, Nat.reduceEqDiff, Nat.reduceAdd, Nat.reduceSub, Nat.reduceLeDiff, Nat.reduceLT, Nat.reduceMul, Int.reduceEq, Int.reduceLT, Int.reduceLE, Int.reduceNeg, Int.reduceToNat, Int.reduceAdd, Int.reduceSub, Int.cast_ofNat_Int, Int.cast_ofNat_Int, reduceCtorEq, ↓reduceIte, Bool.false_eq_true, decide_true, decide_false, eq_self, Bool.not_true, Bool.not_false]
    exact ⟨Nat.zero_le _, h3, h4, rfl, .nilslice, hb4, .nil _ _ _⟩
  clear h3 h4 hb4
  intro f A hI
  refine SWP.cut _ (long_last n hn2 hI) ?_
  clear hI
  rintro f A ⟨h3, h4, hb4⟩
  refine SWP.of ?_
  have hte := (longC n).take_enc
  have hcv := Convert_spec (longC n) (longC_fine hn2) (fun _ => longC_ok hn2) (by rw [longC_size]; omega)
  rw [longC_convert hn1 hn2] at hcv
  generalize (longC n).enc = ce at hte hcv hb4
  by_cases hn : 1024 < n
  · rw [if_pos hn] at hcv
    have htf := takeFlat [] Core.zero
    have hof := oneFlat [] Core.zero
    have hfc := flat_cells [] Core.zero
    have hcl := Core.zero.enc_cells
    simp only at hcv
    refine nwp_then (fun f A => ∃ b6, f 3 = .int .i64 n ∧ f 6 = .ptr b6 0 ∧ f 7 = .int .i64 3 ∧ A b6 = some (.cells (encFlat [] Core.zero).cells)) ?_ ?_
    · simp only [n_gimletlaw26_FlattenLong_r9, h4, hb4, hte, go_sem, Nat.reduceEqDiff, Nat.reduceAdd, Nat.reduceSub, Nat.reduceLeDiff, Nat.reduceLT, Nat.reduceMul, Int.reduceEq, Int.reduceLT, Int.reduceLE, Int.reduceNeg, Int.reduceToNat, Int.reduceAdd, Int.reduceSub, Int.cast_ofNat_Int, Int.cast_ofNat_Int, reduceCtorEq, ↓reduceIte, Bool.false_eq_true, decide_true, decide_false, eq_self, Bool.not_true, Bool.not_false]
      refine hcv.call ?_
      simp only [hfc, hcl, oneSl, Core.zero.one_enc, go_sem, Nat.reduceEqDiff, Nat.reduceAdd, Nat.reduceSub, Nat.reduceLeDiff, Nat.reduceLT, Nat.reduceMul, Int.reduceEq, Int.reduceLT, Int.reduceLE, Int.reduceNeg, Int.reduceToNat, Int.reduceAdd, Int.reduceSub, Int.cast_ofNat_Int, Int.cast_ofNat_Int, reduceCtorEq, ↓reduceIte, Bool.false_eq_true, decide_true, decide_false, eq_self, Bool.not_true, Bool.not_false]
      intro b6 hb6
      exact Here.mk ⟨b6, h3, rfl, rfl, by simp [hfc]⟩
    clear h3 h4 hb4
    rintro f A ⟨b6, h3, h6, h7, hb6⟩
    rw [hfc] at hb6
    have hnl : encSl true 8 (encF []) = .nilslice := rfl
    rw [hnl] at hb6
    have hd : decide ((1024 : Int) < (n : Int)) = true := by simp; omega
    refine nwp_cut (fun _ _ => False) ?_ (fun f A h => h.elim)
    refine nwp_then (fun f A => f 6 = .ptr b6 0 ∧ f 7 = .int .i64 3 ∧ A b6 = some (.cells (.nilslice :: Core.zero.enc.cells)) ∧ f 46 = .bool true) ?_ ?_
    · simp only [n_gimletlaw26_FlattenLong_r10, h3, hd, go_sem, Nat.reduceEqDiff, Nat.reduceAdd, Nat.reduceSub, Nat.reduceLeDiff, Nat.reduceLT, Nat.reduceMul, Int.reduceEq, Int.reduceLT, Int.reduceLE, Int.reduceNeg, Int.reduceToNat, Int.reduceAdd, Int.reduceSub, Int.cast_ofNat_Int, Int.cast_ofNat_Int, reduceCtorEq, ↓reduceIte, Bool.false_eq_true, decide_true, decide_false, eq_self, Bool.not_true, Bool.not_false]
      exact Here.mk ⟨h6, h7, hb6, rfl⟩
    clear h3 h6 h7 hb6
    rintro f A ⟨h6, h7, hb6, h46⟩
    refine nwp_true h46 ?_
    refine nwp_then (fun f A => f 2 = .bool true) ?_ fun f A h => retTrue h
    simp only [n_gimletlaw26_FlattenLong_r11, h6, h7, hb6, go_sem, Nat.reduceEqDiff, Nat.reduceAdd, Nat.reduceSub, Nat.reduceLeDiff, Nat.reduceLT, Nat.reduceMul, Int.reduceEq, Int.reduceLT, Int.reduceLE, Int.reduceNeg, Int.reduceToNat, Int.reduceAdd, Int.reduceSub, Int.cast_ofNat_Int, Int.cast_ofNat_Int, reduceCtorEq, ↓reduceIte, Bool.false_eq_true, decide_true, decide_false, eq_self, Bool.not_true, Bool.not_false]
    refine awake_spec.call ?_
    exact Here.mk rfl
  · rw [if_neg hn] at hcv
    have htf := takeFlat (longF n n) (longM n)
    have hof := oneFlat (longF n n) (longM n)
    have hfc := flat_cells (longF n n) (longM n)
    have hcl := (longM n).enc_cells
    have hone := (longM n).one_enc
    have hlf : ∀ B, lenAV B .slice (encSl true 8 (encF (longF n n))) = some n := fun B => by rw [lenAV_encSl, encF_len, longF_len]
    have hck := flatCheck_spec (longF n n) (longM n) (by rw [longF_len]; omega) (longM_fine (by omega)) (fun p hp => by rw [longF_mem hp]; exact retI_fine _)
    rw [long_flatCheck hn1 (by omega)] at hck
    have hos : (encSl true 8 (encF (longF n n))).one = true := oneSl _ _ _
    simp only at hcv
    generalize encFlat (longF n n) (longM n) = fl at hcv htf hof hfc hck
    generalize encSl true 8 (encF (longF n n)) = fv at hfc hlf hos
    generalize (longM n).enc = me at hfc hcl hone
    refine nwp_then (fun f A => ∃ b6, f 3 = .int .i64 n ∧ f 6 = .ptr b6 0 ∧ f 7 = .int .i64 0 ∧ A b6 = some (.cells fl.cells)) ?_ ?_
    · simp only [n_gimletlaw26_FlattenLong_r9, h4, hb4, hte, go_sem, Nat.reduceEqDiff, Nat.reduceAdd, Nat.reduceSub, Nat.reduceLeDiff, Nat.reduceLT, Nat.reduceMul, Int.reduceEq, Int.reduceLT, Int.reduceLE, Int.reduceNeg, Int.reduceToNat, Int.reduceAdd, Int.reduceSub, Int.cast_ofNat_Int, Int.cast_ofNat_Int, reduceCtorEq, ↓reduceIte, Bool.false_eq_true, decide_true, decide_false, eq_self, Bool.not_true, Bool.not_false]
      refine hcv.call ?_
      simp only [hfc, hcl, hos, hone, go_sem, Nat.reduceEqDiff, Nat.reduceAdd, Nat.reduceSub, Nat.reduceLeDiff, Nat.reduceLT, Nat.reduceMul, Int.reduceEq, Int.reduceLT, Int.reduceLE, Int.reduceNeg, Int.reduceToNat, Int.reduceAdd, Int.reduceSub, Int.cast_ofNat_Int, Int.cast_ofNat_Int, reduceCtorEq, ↓reduceIte, Bool.false_eq_true, decide_true, decide_false, eq_self, Bool.not_true, Bool.not_false]
      intro b6 hb6
      exact Here.mk ⟨b6, h3, rfl, rfl, by simp [hfc]⟩
    clear h3 h4 hb4
    rintro f A ⟨b6, h3, h6, h7, hb6⟩
    rw [hfc] at hb6 htf
    have hd : decide ((1024 : Int) < (n : Int)) = false := by simp; omega
    refine nwp_cut (fun f A => f 3 = .int .i64 n ∧ f 6 = .ptr b6 0 ∧ f 7 = .int .i64 0 ∧ A b6 = some (.cells (fv :: me.cells))) ?_ ?_
    · refine nwp_then (fun f A => f 3 = .int .i64 n ∧ f 6 = .ptr b6 0 ∧ f 7 = .int .i64 0 ∧ A b6 = some (.cells (fv :: me.cells)) ∧ f 46 = .bool false) ?_ ?_
      · simp only [n_gimletlaw26_FlattenLong_r10, h3, hd, go_sem, Nat.reduceEqDiff, Nat.reduceAdd, Nat.reduceSub, Nat.reduceLeDiff, Nat.reduceLT, Nat.reduceMul, Int.reduceEq, Int.reduceLT, Int.reduceLE, Int.reduceNeg, Int.reduceToNat, Int.reduceAdd, Int.reduceSub, Int.cast_ofNat_Int, Int.cast_ofNat_Int, reduceCtorEq, ↓reduceIte, Bool.false_eq_true, decide_true, decide_false, eq_self, Bool.not_true, Bool.not_false]
        exact Here.mk ⟨h3, h6, h7, hb6, rfl⟩
      clear h3 h6 h7 hb6
      rintro f A ⟨h3, h6, h7, hb6, h46⟩
      exact nwp_false h46 ⟨h3, h6, h7, hb6⟩
    clear h3 h6 h7 hb6
    rintro f A ⟨h3, h6, h7, hb6⟩
    refine nwp_then (fun f A => f 2 = .bool true) ?_ fun f A h => retTrue h
    simp only [n_gimletlaw26_FlattenLong_r12, h3, h6, h7, hb6, hlf, htf, go_sem, Nat.reduceEqDiff, Nat.reduceAdd, Nat.reduceSub, Nat.reduceLeDiff, Nat.reduceLT, Nat.reduceMul, Int.reduceEq, Int.reduceLT, Int.reduceLE, Int.reduceNeg, Int.reduceToNat, Int.reduceAdd, Int.reduceSub, Int.cast_ofNat_Int, Int.cast_ofNat_Int, reduceCtorEq, ↓reduceIte, Bool.false_eq_true, decide_true, decide_false, eq_self, Bool.not_true, Bool.not_false]
    refine hck.call ?_
    simp only [go_sem, Nat.reduceEqDiff, Nat.reduceAdd, Nat.reduceSub, Nat.reduceLeDiff, Nat.reduceLT, Nat.reduceMul, Int.reduceEq, Int.reduceLT, Int.reduceLE, Int.reduceNeg, Int.reduceToNat, Int.reduceAdd, Int.reduceSub, Int.cast_ofNat_Int, Int.cast_ofNat_Int, reduceCtorEq, ↓reduceIte, Bool.false_eq_true, decide_true, decide_false, eq_self, Bool.not_true, Bool.not_false]
    refine awake_spec.call ?_
    exact Here.mk rfl

end Go.NL

/-
  FlattenLong holds: for every integer the function returns true, whatever the orders that the model draws; no condition is laid.
  The row's own step is the kit's shell for this function, turned to what is known of memory here (old blocks are as they were).
-/
set_option linter.unusedVariables false
namespace Go.NL
open Go.Proofs

theorem long_calls (a0 : Int) (w : World) : Calls Try.prog F_gimletlaw26_FlattenLong #[.int .i64 a0] w fun e w' => e = .returned (.bool true) ∧ RowKit.Below w.heap.size w w' := by
  refine ((FlattenLong_run a0).2 Ev.G0 w #[.int .i64 a0] (Ev.sim0 w) (.cons (vs := []) (.int _ _) .nil)).mono ?_
  rintro e w' ⟨v, V, A', g', rfl, hr, hs, he, rfl⟩
  rw [rel_bool hr]
  exact ⟨rfl, he.os, he.tape, he.output, he.size, fun k hk => he.heap k hk fun b sh top h => by cases h⟩
end Go.NL

namespace Go.Proofs.Ytdeboephmbaihaa.flattenLong
open Go.ChangeShapes Go.WideShapes Go.ChangeAt Go.RowKit

section
variable {H : Type} {enc : TypeId × Value → H} {P : Program}
theorem post_of_old {f : Func} {s : ChangeSpec} {apart fresh handsOn again : Bool} {W W' : World} {args : Array Value} {v : Value} {ds gs : List (DataW H)} {before pa pv : List MemPlace}
    (hW : DataW.Whole enc P f.params.toList s.vars apart W args.toList ds gs before)
    (hres : ∀ (b : Nat) (sp : Nat → Bool) (hd : Bool), DataW.TrodAll enc P W' b sp hd f.resultTypes.toList (v.resultList f.resultTypes.size) (s.fn H (ds ++ gs)).results [])
    (hargs : ∀ sp : Nat → Bool, (∀ p ∈ before, sp p.block = true) → DataW.TrodAll enc P W' 0 sp true f.params.toList args.toList (s.fn H (ds ++ gs)).args pa)
    (hvars : ∀ sp : Nat → Bool, (∀ p ∈ before, sp p.block = true) → DataW.TrodVars enc P W' sp s.vars (s.fn H (ds ++ gs)).vars pv)
    (hps : before = pa ++ pv) (hb : Below W.heap.size W W')
    (hok : ∀ (j : Nat) (t : TypeId) (r : Value), f.resultTypes[j]? = some t → (v.resultList f.resultTypes.size)[j]? = some r → Value.okWide P W' .any 0 t r) :
    s.post enc P f apart fresh handsOn again W args v W' := by
  have hlt : ∀ p ∈ before, p.block < W.heap.size := fun p hp => hW.lt p hp
  have hold : ∀ p ∈ before, (fun b => decide (b < W.heap.size)) p.block = true := fun p hp => by simpa using hlt p hp
  refine ⟨ds, gs, before, [], pa, pv, hW, hres _ _ _, hargs _ hold, hvars _ hold, World.keptBut_mono (fun p hp => ⟨hp, ?_⟩) (hb.frame (· ∈ before)), fun _ => ?_⟩
  · rw [hps, List.mem_append] at hp
    exact Or.inr hp
  · obtain ⟨_, _, _, _, _, hz, hn⟩ := hW
    refine ⟨hok, _, _, ([] ++ pa) ++ pv, ⟨[] ++ pa, pv, trodAll_append (hargs _ (fun _ _ => rfl)) (hres _ _ _), hvars _ (fun _ _ => rfl), rfl, ?_, ?_⟩, ?_⟩
    · intro b off hp
      have hin : MemPlace.cell b off ∈ before := by rw [hps]; simpa using hp
      rw [hb.frozen (hlt _ hin)]
      exact hz b off hin
    · intro ha
      have := hn ha
      rw [hps] at this
      simpa using this
    · intro p hp _
      rw [hps]
      simpa using hp
end

theorem own : ownKnob Try.prog.godebug = none := by kernel_rfl

set_option maxRecDepth 100000 in
theorem lifted (os : Os) (started : os.Started) (H : Type) (enc : TypeId × Value → H) :
    ReturnsInHanded {} Try.checked os 3 .any (Rows.flattenLongSpec.pre6 enc Try.prog Try.f3 Rows.flattenLongRow.domain false) (Rows.flattenLongSpec.post enc Try.prog Try.f3 false true false false) := by
  refine returnsInHanded_of_change (C := Try.checked) own started (by kernel_rfl) Try.func3
    (ChangeSpec.witness6 (enc := enc) (C := Try.checked) false ⟨#[], #[.int .i64 0], []⟩ 8 (by kernel_rfl) (by kernel_rfl) (by kernel_rfl) (by kernel_rfl)) ?_
  intro W base args ds gs before hval0 hW hcnd _
  have hval : ∀ (j : Nat) t v, Try.f3.params[j]? = some t → args[j]? = some v → Value.okWide Try.prog W .any base t v := hval0
  have hW' := hW
  obtain ⟨p, q, hA0, hV, rfl, hfz, hnd⟩ := hW
  have hA : DataW.TrodAll enc Try.prog W 0 (fun _ => true) true Try.f3.params.toList args.toList ds p := hA0
  rw [Try.params3] at hA hval
  obtain ⟨v0, vs0, d0, ds0, p0, q0, hargs, rfl, rfl, h0, r0⟩ := trodAll_cons hA
  obtain ⟨rfl, rfl, rfl⟩ := trodAll_nil r0
  obtain rfl : args = #[v0] := by cases args; simp_all
  obtain ⟨rfl, rfl⟩ := trodVars_none hV
  obtain ⟨a0, rfl, rfl, rfl, w0⟩ := open_int Try.underlying3 (hval 0 3 v0 rfl rfl) h0
  clear hA0 hval0
  simp only [List.append_nil] at hW'
  refine (Go.NL.long_calls a0 W).mono fun e W' ⟨he, hg⟩ => ?_
  subst he
  exact ⟨_, rfl, post_of_old (pa := []) (pv := []) hW' (fun _ _ _ => (trodAll_cons_mk (shut_bool Try.underlying4 _) trodAll_mk0)) (fun sp _ => (trodAll_cons_mk (shut_int Try.underlying3 w0) trodAll_mk0)) (fun _ _ => rfl) rfl
    hg (ok_one (by kernel_rfl) rfl (okWide_bool_mk Try.underlying4 _))⟩

theorem over : Rows.flattenLongRow.holds Try.pinned (OpenSpec.ofChange Rows.flattenLongSpec) :=
  OpenClaim.holds_of_wide 3 Try.f3 rfl rfl rfl rfl rfl rfl rfl ⟨rfl, rfl, rfl, rfl, rfl⟩ rfl rfl rfl rfl rfl (by kernel_rfl) Try.func3 (by kernel_rfl)
    (of_decide_eq_true (by kernel_rfl)) (by unfold Func.isWrapper; first | (rw [if_pos (by decide +kernel)]; kernel_rfl) | (rw [if_neg (by decide +kernel)]; exact ⟨rfl, rfl⟩))
    (fun os started H enc _ => lifted os started H enc)

theorem proved : Rows.FlattenLongSaid :=
  over
#print axioms proved
end Go.Proofs.Ytdeboephmbaihaa.flattenLong
