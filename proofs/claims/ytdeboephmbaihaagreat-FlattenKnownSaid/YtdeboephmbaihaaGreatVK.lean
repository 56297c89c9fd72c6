/- FlattenKnown, by evaluation. -/
import Derived.Test.YtdeboephmbaihaaGreatXVT
import Derived.Below
set_option maxRecDepth 100000
namespace Go.NL
open Go.Proofs

noncomputable def spK (F : FuncId) : Option (List AV → EH → (AV → EH → ER) → ER) := Bool.rec (motive := fun _ => Option (List AV → EH → (AV → EH → ER) → ER)) (Bool.rec (motive := fun _ => Option (List AV → EH → (AV → EH → ER) → ER)) (Bool.rec (motive := fun _ => Option (List AV → EH → (AV → EH → ER) → ER)) none (some sortSK) (Nat.beq F 64)) (some compSK) (Nat.beq F 65)) (some keysSK) (Nat.beq F 67)

theorem spK_ok : ∀ F s, spK F = some s → SpOk Tryz.prog F s := by
  intro F s h
  unfold spK at h
  by_cases h1 : F = 67
  · subst h1
    have h : some keysSK = some s := h
    cases h
    exact keysSK_ok
  · rw [show Nat.beq F 67 = false by rw [beq_dec]; simp [h1]] at h
    by_cases h2 : F = 65
    · subst h2
      have h : some compSK = some s := h
      cases h
      exact compSK_ok
    · rw [show Nat.beq F 65 = false by rw [beq_dec]; simp [h2]] at h
      by_cases h3 : F = 64
      · subst h3
        have h : some sortSK = some s := h
        cases h
        exact sortSK_ok
      · rw [show Nat.beq F 64 = false by rw [beq_dec]; simp [h3]] at h
        cases h

noncomputable def isTrueK (v : AV) (_ : EH) : ER := boolV v fun b => Bool.rec (motive := fun _ => ER) none (some ()) b
def H0 : EH := .mk 0 256 (.rep .gone)

theorem hdl_ok (n : Nat) : HdlOk Tryz.prog (callsK (codeOf codeT) spK n) := callsK_ok (codeT_ok.get) spK_ok n

theorem known_run : callsK (codeOf codeT) spK 60 F_gimletlaw26_FlattenKnown [] H0 isTrueK = some () := by kernel_rfl

/-- Nothing stands in memory that is the run's own. -/
def G0 : G := ⟨0, fun _ => none, fun _ _ _ => False⟩
theorem sim0 (w : World) : Sim G0 (fun _ => none) w :=
  ⟨fun b _ => ⟨rfl, rfl⟩, (fun b x h => by cases h), (fun b b' cb sh top sh' top' h => by cases h), (fun b cb sh top o v h => by cases h), (fun b cb sh top h => by cases h), (fun cb o v h => h.elim)⟩
theorem fits0 : Fits (fun _ => none) H0 (fun _ => none) :=
  ⟨(fun i b h => by cases h), ⟨by decide, by decide⟩, (fun i j b _ _ h => by cases h), (fun i b h => by cases h)⟩

theorem known_ncalls : NCalls Tryz.prog F_gimletlaw26_FlattenKnown [] (fun _ => none) fun v _ => v = .bool true := by
  refine hdl_ok 60 F_gimletlaw26_FlattenKnown [] H0 isTrueK () known_run (fun _ => none) [] _ _ .nil fits0 fun ρ' v H' v' A' _ hv _ hk => ?_
  obtain ⟨b, rfl, hb⟩ := boolV_some hk
  cases b
  · cases hb
  · exact vr_bool hv

theorem known_calls (w : World) : Calls Tryz.prog F_gimletlaw26_FlattenKnown #[] w fun e w' => e = .returned (.bool true) ∧ RowKit.Below w.heap.size w w' := by
  refine (known_ncalls.2 G0 w #[] (sim0 w) .nil).mono ?_
  rintro e w' ⟨v, V, A', g', rfl, hr, hs, he, rfl⟩
  rw [rel_bool hr]
  exact ⟨rfl, he.os, he.tape, he.output, he.size, fun k hk => he.heap k hk fun b sh top h => by cases h⟩

end Go.NL
