/- THE N-LOGIC, part F: slices, places, maps that are read; and all of 'qop'. -/
import Derived.Test.YtdeboephmbaihaaGreatNE
set_option linter.unusedVariables false
set_option linter.unusedSimpArgs false
namespace Go.NL

theorem add_mk (cb o k : Nat) : (⟨cb, o, none⟩ : Addr).add k = ⟨cb, o + k, none⟩ := by unfold Addr.add; split <;> simp_all

theorem add_spot {a : Addr} (h : a.spot = none) (k : Nat) : (a.add k).spot = none := by unfold Addr.add; split <;> simp_all

/-! slice expressions -/
theorem run_slice_slice {P : Program} {w : World} {t e : TypeId} {i : TypeInfo} (hu : P.underlying t = some (.slice e)) (hi : P.info? e = some i) {a : Option Addr} {len cap : Nat} {lo hi' mx : Option Value} {l h m : Nat}
    (hb : (Instr.sliceBounds true len cap lo hi' mx).run P w = .ok (l, h, m) w) : (Instr.sliceAt t (.slice a len cap) lo hi' mx).run P w = .ok (.slice (if m = l then a else a.map (·.add (l * i.size))) (h - l) (m - l)) w := by
  simp only [Instr.sliceAt, Sem.run_bind, run_underlying hu, Result.andThen_ok, Instr.slice, hb, sizeOf, typeInfo, run_program, hi, Sem.run_pure]

/-- What the three bounds come to. -/
theorem run_bounds {P : Program} {w : World} {sl : Bool} {len cap : Nat} {lo hi mx : Option Value} {l h m : Nat}
    (hm : (mx = none ∧ m = cap) ∨ ∃ V, mx = some V ∧ ∀ code, (Instr.sliceBound V cap code).run P w = .ok m w)
    (hh : (hi = none ∧ mx = none ∧ h = len) ∨ ∃ V, hi = some V ∧ ∀ code, (Instr.sliceBound V m code).run P w = .ok h w)
    (hl : (lo = none ∧ l = 0) ∨ ∃ V, lo = some V ∧ ∀ code, (Instr.sliceBound V h code).run P w = .ok l w) : (Instr.sliceBounds sl len cap lo hi mx).run P w = .ok (l, h, m) w := by
  unfold Instr.sliceBounds
  rcases hm with ⟨rfl, rfl⟩ | ⟨M, rfl, hM⟩
  · rcases hh with ⟨rfl, _, rfl⟩ | ⟨H, rfl, hH⟩
    · rcases hl with ⟨rfl, rfl⟩ | ⟨L, rfl, hL⟩
      · simp
      · simp [hL]
    · rcases hl with ⟨rfl, rfl⟩ | ⟨L, rfl, hL⟩
      · simp [hH]
      · simp [hH, hL]
  · rcases hh with ⟨_, hno, _⟩ | ⟨H, rfl, hH⟩
    · cases hno
    · rcases hl with ⟨rfl, rfl⟩ | ⟨L, rfl, hL⟩
      · simp [hM, hH]
      · simp [hM, hH, hL]

theorem low_le {cap : Cap} {c : Nat} (h : match cap with | .ge k => k ≤ c | .eq k => c = k) : cap.low ≤ c := by cases cap <;> simp_all [Cap.low]


/-- The optional operands of a slice expression. -/
def OptOk (g : G) (x : Option AV) (X : Option Value) : Prop := (x = none ∧ X = none) ∨ ∃ v V, x = some v ∧ X = some V ∧ Rel g v V

theorem boundAV_spec {P : Program} {g : G} {w : World} {x : Option AV} {X : Option Value} (hx : OptOk g x X) {d top r : Nat} (h : boundAV d top x = some r) :
    (x = none ∧ X = none ∧ r = d) ∨ (x.isSome = true ∧ r ≤ top ∧ ∃ V, X = some V ∧ ∀ top' code, top ≤ top' → (Instr.sliceBound V top' code).run P w = .ok r w) := by
  rcases hx with ⟨rfl, rfl⟩ | ⟨v, V, rfl, rfl, hR⟩
  · simp only [boundAV, Option.some.injEq] at h
    exact .inl ⟨rfl, rfl, h.symm⟩
  · cases hR <;> simp only [boundAV, reduceCtorEq] at h
    rename_i k n
    split at h
    · rename_i hc
      cases h
      exact .inr ⟨rfl, by omega, _, rfl, fun top' code ht => run_sliceBound _ k n top' code hc.1 (by omega)⟩
    · cases h

theorem extract_list (s : ByteArray) (l h : Nat) : (s.extract l h).data.toList = (s.data.toList.drop l).take (h - l) := by
  rw [ByteArray.data_extract]
  simp [List.extract_eq_take_drop]

theorem sound_slice {P : Program} {g : G} {w : World} {t : TypeId} {esz : Option Nat} (ht : (esz = none ∧ P.underlying t = some .string) ∨ ∃ e i, P.underlying t = some (.slice e) ∧ P.info? e = some i ∧ esz = some i.size)
    {lo hi mx : Option AV} {Lo Hi Mx : Option Value} (h1 : OptOk g lo Lo) (h2 : OptOk g hi Hi) (h3 : OptOk g mx Mx) {x : AV} {X : Value} (hx : Rel g x X) {v : AV} (hv : sliceAV esz lo hi mx x = some v) :
    ∃ V, (Instr.sliceAt t X Lo Hi Mx).run P w = .ok V w ∧ Rel g v V := by
  unfold sliceAV at hv
  split at hv
  · -- a text
    rename_i s
    split at hv
    · cases hv
    · rename_i he
      rcases ht with ⟨_, hu⟩ | ⟨e, i, _, _, rfl⟩
      · split at hv
        · cases hv
        · split at hv
          · cases hv
          · rename_i h hh
            split at hv
            · cases hv
            · rename_i l hl
              cases hv
              obtain ⟨b, rfl, rfl⟩ := rel_str hx
              have hMx : Mx = none := by
                rcases h3 with ⟨_, h⟩ | ⟨v, V, h, _⟩
                · exact h
                · cases h
              subst hMx
              have hbs : b.size = b.data.toList.length := by rw [Array.length_toList]; rfl
              have hb : (Instr.sliceBounds false b.size b.size Lo Hi none).run P w = .ok (l, h, b.size) w := by
                refine run_bounds (.inl ⟨rfl, rfl⟩) ?_ ?_
                · rcases boundAV_spec (P := P) (w := w) h2 hh with ⟨_, hH, hr⟩ | ⟨_, hle, V, hV, hr⟩
                  · exact .inl ⟨hH, rfl, by rw [hr, hbs]⟩
                  · exact .inr ⟨V, hV, fun code => hr _ _ (by rw [hbs]; exact Nat.le_refl _)⟩
                · rcases boundAV_spec (P := P) (w := w) h1 hl with ⟨_, hH, hr⟩ | ⟨_, hle, V, hV, hr⟩
                  · exact .inl ⟨hH, hr⟩
                  · exact .inr ⟨V, hV, fun code => hr _ _ (Nat.le_refl _)⟩
              refine ⟨.string (b.extract l h), ?_, rel_str_mk _ _ (extract_list _ _ _)⟩
              simp only [Instr.sliceAt, Sem.run_bind, run_underlying hu, Result.andThen_ok, Instr.slice, Option.isSome_none, Bool.false_eq_true, if_false, hb, Sem.run_pure]
      · simp at he
  · -- nil
    split at hv
    · cases hv
    · rename_i he
      simp only [Bool.or_eq_true, Bool.and_eq_true, not_or, not_and, Bool.not_eq_true] at he
      split at hv
      · rename_i m h l hm hh hl
        cases hv
        rcases ht with ⟨rfl, hu⟩ | ⟨e, i, hu, hi', rfl⟩
        · simp at he
        · cases hx
          have hm0 : m = 0 := by
            rcases boundAV_spec (P := P) (w := w) h3 hm with ⟨_, _, hr⟩ | ⟨_, hle, _⟩ <;> omega
          have hh0 : h = 0 := by
            rcases boundAV_spec (P := P) (w := w) h2 hh with ⟨_, _, hr⟩ | ⟨_, hle, _⟩ <;> omega
          have hl0 : l = 0 := by
            rcases boundAV_spec (P := P) (w := w) h1 hl with ⟨_, _, hr⟩ | ⟨_, hle, _⟩ <;> omega
          subst hm0
          subst hh0
          subst hl0
          have hb : (Instr.sliceBounds true 0 0 Lo Hi Mx).run P w = .ok (0, 0, 0) w := by
            refine run_bounds ?_ ?_ ?_
            · rcases boundAV_spec (P := P) (w := w) h3 hm with ⟨_, hH, hr⟩ | ⟨_, hle, V, hV, hr⟩
              · exact .inl ⟨hH, rfl⟩
              · exact .inr ⟨V, hV, fun code => hr _ _ (Nat.le_refl _)⟩
            · rcases boundAV_spec (P := P) (w := w) h2 hh with ⟨hn, hH, hr⟩ | ⟨_, hle, V, hV, hr⟩
              · refine .inl ⟨hH, ?_, rfl⟩
                rcases h3 with ⟨_, h⟩ | ⟨v, V, h, _⟩
                · exact h
                · subst h; subst hn; simp at he
              · exact .inr ⟨V, hV, fun code => hr _ _ (Nat.le_refl _)⟩
            · rcases boundAV_spec (P := P) (w := w) h1 hl with ⟨_, hH, hr⟩ | ⟨_, hle, V, hV, hr⟩
              · exact .inl ⟨hH, rfl⟩
              · exact .inr ⟨V, hV, fun code => hr _ _ (Nat.le_refl _)⟩
          refine ⟨_, run_slice_slice hu hi' hb, ?_⟩
          simp
          exact .nilslice
      · cases hv
  · -- a block that may change
    rename_i e b off len cap
    split at hv
    · cases hv
    · rename_i he
      rcases ht with ⟨rfl, hu⟩ | ⟨e', i, hu, hi', rfl⟩
      · simp at he
      · simp only [ne_eq, Option.some.injEq, Classical.not_not] at he
        subst he
        cases hx with
        | slice _ _ _ _ _ a c hb hlc hcap hsp hlive =>
          have hlow := low_le hcap
          split at hv
          · -- no third bound
            have hMx : Mx = none := by
              rcases h3 with ⟨_, h⟩ | ⟨v, V, h, _⟩
              · exact h
              · cases h
            subst hMx
            split at hv
            · cases hv
            · rename_i h hh
              split at hv
              · cases hv
              · rename_i l hl
                cases hv
                have hlh : l ≤ h ∧ h ≤ c := by
                  constructor
                  · rcases boundAV_spec (P := P) (w := w) h1 hl with ⟨_, _, hr⟩ | ⟨_, hle, _⟩ <;> omega
                  · rcases boundAV_spec (P := P) (w := w) h2 hh with ⟨_, _, hr⟩ | ⟨_, hle, _⟩ <;> omega
                have hb' : (Instr.sliceBounds true len c Lo Hi none).run P w = .ok (l, h, c) w := by
                  refine run_bounds (.inl ⟨rfl, rfl⟩) ?_ ?_
                  · rcases boundAV_spec (P := P) (w := w) h2 hh with ⟨_, hH, hr⟩ | ⟨_, hle, V, hV, hr⟩
                    · exact .inl ⟨hH, rfl, hr⟩
                    · exact .inr ⟨V, hV, fun code => hr _ _ hlow⟩
                  · rcases boundAV_spec (P := P) (w := w) h1 hl with ⟨_, hH, hr⟩ | ⟨_, hle, V, hV, hr⟩
                    · exact .inl ⟨hH, hr⟩
                    · exact .inr ⟨V, hV, fun code => hr _ _ (Nat.le_refl _)⟩
                refine ⟨_, run_slice_slice hu hi' hb', ?_⟩
                have hcap' : match cap.less l with | .ge k => k ≤ c - l | .eq k => c - l = k := by
                  cases cap <;> simp only [Cap.less] at hcap ⊢ <;> omega
                by_cases hcl : c = l
                · rw [if_pos hcl]
                  exact .slice _ _ _ _ _ _ _ hb (by omega) hcap' hsp (fun hne => by omega)
                · rw [if_neg hcl]
                  refine .slice _ _ _ _ _ _ _ hb (by omega) hcap' (add_spot hsp _) (fun hne cb sh top hm => ?_)
                  obtain ⟨rfl, h4⟩ := hlive (by omega) _ _ _ hm
                  refine ⟨(add_mk _ _ _).trans (by rw [Nat.add_assoc]), ?_⟩
                  have : (l + (c - l)) * i.size = c * i.size := by rw [Nat.add_sub_cancel' (by omega)]
                  rw [Nat.add_mul] at this
                  omega
          · -- three bounds
            rename_i mv
            split at hv
            · cases hv
            · rename_i m hm
              split at hv
              · cases hv
              · rename_i hv'
                split at hv
                · cases hv
                · rename_i h hh
                  split at hv
                  · cases hv
                  · rename_i l hl
                    cases hv
                    have hlh : l ≤ h ∧ h ≤ m ∧ m ≤ c := by
                      refine ⟨?_, ?_, ?_⟩
                      · rcases boundAV_spec (P := P) (w := w) h1 hl with ⟨_, _, hr⟩ | ⟨_, hle, _⟩ <;> omega
                      · rcases boundAV_spec (P := P) (w := w) h2 hh with ⟨hn, _, hr⟩ | ⟨_, hle, _⟩
                        · cases hn
                        · omega
                      · rcases boundAV_spec (P := P) (w := w) h3 hm with ⟨hn, _, hr⟩ | ⟨_, hle, _⟩
                        · cases hn
                        · omega
                    have hb' : (Instr.sliceBounds true len c Lo Hi Mx).run P w = .ok (l, h, m) w := by
                      refine run_bounds ?_ ?_ ?_
                      · rcases boundAV_spec (P := P) (w := w) h3 hm with ⟨hn, _, hr⟩ | ⟨_, hle, V, hV, hr⟩
                        · cases hn
                        · exact .inr ⟨V, hV, fun code => hr _ _ hlow⟩
                      · rcases boundAV_spec (P := P) (w := w) h2 hh with ⟨hn, _, hr⟩ | ⟨_, hle, V, hV, hr⟩
                        · cases hn
                        · exact .inr ⟨V, hV, fun code => hr _ _ (Nat.le_refl _)⟩
                      · rcases boundAV_spec (P := P) (w := w) h1 hl with ⟨_, hH, hr⟩ | ⟨_, hle, V, hV, hr⟩
                        · exact .inl ⟨hH, hr⟩
                        · exact .inr ⟨V, hV, fun code => hr _ _ (Nat.le_refl _)⟩
                    refine ⟨_, run_slice_slice hu hi' hb', ?_⟩
                    by_cases hcl : m = l
                    · rw [if_pos hcl]
                      exact .slice _ _ _ _ _ _ _ hb (by omega) rfl hsp (fun hne => by omega)
                    · rw [if_neg hcl]
                      refine .slice _ _ _ _ _ _ _ hb (by omega) rfl (add_spot hsp _) (fun hne cb sh top hm' => ?_)
                      obtain ⟨rfl, h4⟩ := hlive (by omega) _ _ _ hm'
                      refine ⟨(add_mk _ _ _).trans (by rw [Nat.add_assoc]), ?_⟩
                      have : (l + (m - l)) * i.size = m * i.size := by rw [Nat.add_sub_cancel' (by omega)]
                      have h5 : m * i.size ≤ c * i.size := Nat.mul_le_mul_right _ (by omega)
                      rw [Nat.add_mul] at this
                      omega
  · -- what does not change
    rename_i e es ex
    split at hv
    · cases hv
    · rename_i he
      rcases ht with ⟨rfl, hu⟩ | ⟨e', i, hu, hi', rfl⟩
      · simp at he
      · simp only [ne_eq, Option.some.injEq, Classical.not_not] at he
        subst he
        cases hx with
        | islice _ _ _ cb o c hlc hex him =>
          have hsub : ∀ (l h : Nat), l ≤ h → h ≤ es.length → ∀ (k : Nat) (el : AV), ((es.drop l).take (h - l))[k]? = some el → el.cells.length = i.size ∧ ∀ (j : Nat) (u : AV), el.cells[j]? = some u → g.im cb (o + l * i.size + k * i.size + j) u := by
            intro l h hlh hhl k el hk
            have hkl : k < h - l := by
              rcases Nat.lt_or_ge k (h - l) with h' | h'
              · exact h'
              · rw [List.getElem?_take, if_neg (by omega)] at hk; cases hk
            rw [drop_take_get _ _ _ _ hkl] at hk
            obtain ⟨q1, q2⟩ := him _ _ hk
            refine ⟨q1, fun j u hu => ?_⟩
            have := q2 j u hu
            rw [Nat.add_mul, ← Nat.add_assoc] at this
            exact this
          have hlen : ∀ (l h : Nat), h ≤ es.length → ((es.drop l).take (h - l)).length = h - l := by intro l h hh; simp; omega
          split at hv
          · have hMx : Mx = none := by
              rcases h3 with ⟨_, h⟩ | ⟨v, V, h, _⟩
              · exact h
              · cases h
            subst hMx
            split at hv
            · cases hv
            · rename_i h hh
              split at hv
              · cases hv
              · rename_i l hl
                cases hv
                have hlh : l ≤ h ∧ h ≤ es.length := by
                  constructor
                  · rcases boundAV_spec (P := P) (w := w) h1 hl with ⟨_, _, hr⟩ | ⟨_, hle, _⟩ <;> omega
                  · rcases boundAV_spec (P := P) (w := w) h2 hh with ⟨_, _, hr⟩ | ⟨_, hle, _⟩ <;> omega
                have hb' : (Instr.sliceBounds true es.length c Lo Hi none).run P w = .ok (l, h, c) w := by
                  refine run_bounds (.inl ⟨rfl, rfl⟩) ?_ ?_
                  · rcases boundAV_spec (P := P) (w := w) h2 hh with ⟨_, hH, hr⟩ | ⟨_, hle, V, hV, hr⟩
                    · exact .inl ⟨hH, rfl, hr⟩
                    · exact .inr ⟨V, hV, fun code => hr _ _ hlc⟩
                  · rcases boundAV_spec (P := P) (w := w) h1 hl with ⟨_, hH, hr⟩ | ⟨_, hle, V, hV, hr⟩
                    · exact .inl ⟨hH, hr⟩
                    · exact .inr ⟨V, hV, fun code => hr _ _ (Nat.le_refl _)⟩
                have hrun := run_slice_slice (a := some ⟨cb, o, none⟩) hu hi' hb'
                have hex' : (ex && h == es.length) = true → c - l = h - l := by
                  intro hh'
                  simp only [Bool.and_eq_true, beq_iff_eq] at hh'
                  have := hex hh'.1
                  omega
                by_cases hcl : c = l
                · rw [if_pos hcl] at hrun
                  refine ⟨_, hrun, ?_⟩
                  have h0 : h - l = 0 := by omega
                  have hR := Rel.islice (g := g) i.size ((es.drop l).take (h - l)) (ex && h == es.length) cb o (c - l) (by rw [hlen l h hlh.2]; omega) (by rw [hlen l h hlh.2]; exact hex') (by rw [h0]; simp)
                  rw [hlen l h hlh.2] at hR
                  exact hR
                · rw [if_neg hcl] at hrun
                  refine ⟨_, hrun, ?_⟩
                  simp only [Option.map_some, add_mk]
                  have hR := Rel.islice (g := g) i.size ((es.drop l).take (h - l)) (ex && h == es.length) cb (o + l * i.size) (c - l) (by rw [hlen l h hlh.2]; omega) (by rw [hlen l h hlh.2]; exact hex') (hsub l h hlh.1 hlh.2)
                  rw [hlen l h hlh.2] at hR
                  exact hR
          · rename_i mv
            split at hv
            · cases hv
            · rename_i m hm
              split at hv
              · cases hv
              · rename_i hv'
                split at hv
                · cases hv
                · rename_i h hh
                  split at hv
                  · cases hv
                  · rename_i l hl
                    cases hv
                    have hlh : l ≤ h ∧ h ≤ m ∧ m ≤ es.length := by
                      refine ⟨?_, ?_, ?_⟩
                      · rcases boundAV_spec (P := P) (w := w) h1 hl with ⟨_, _, hr⟩ | ⟨_, hle, _⟩ <;> omega
                      · rcases boundAV_spec (P := P) (w := w) h2 hh with ⟨hn, _, hr⟩ | ⟨_, hle, _⟩
                        · cases hn
                        · omega
                      · rcases boundAV_spec (P := P) (w := w) h3 hm with ⟨hn, _, hr⟩ | ⟨_, hle, _⟩
                        · cases hn
                        · omega
                    have hb' : (Instr.sliceBounds true es.length c Lo Hi Mx).run P w = .ok (l, h, m) w := by
                      refine run_bounds ?_ ?_ ?_
                      · rcases boundAV_spec (P := P) (w := w) h3 hm with ⟨hn, _, hr⟩ | ⟨_, hle, V, hV, hr⟩
                        · cases hn
                        · exact .inr ⟨V, hV, fun code => hr _ _ hlc⟩
                      · rcases boundAV_spec (P := P) (w := w) h2 hh with ⟨hn, _, hr⟩ | ⟨_, hle, V, hV, hr⟩
                        · cases hn
                        · exact .inr ⟨V, hV, fun code => hr _ _ (Nat.le_refl _)⟩
                      · rcases boundAV_spec (P := P) (w := w) h1 hl with ⟨_, hH, hr⟩ | ⟨_, hle, V, hV, hr⟩
                        · exact .inl ⟨hH, hr⟩
                        · exact .inr ⟨V, hV, fun code => hr _ _ (Nat.le_refl _)⟩
                    have hrun := run_slice_slice (a := some ⟨cb, o, none⟩) hu hi' hb'
                    have hex' : (h == m) = true → m - l = h - l := by
                      intro hh'
                      simp only [beq_iff_eq] at hh'
                      omega
                    by_cases hcl : m = l
                    · rw [if_pos hcl] at hrun
                      refine ⟨_, hrun, ?_⟩
                      have h0 : h - l = 0 := by omega
                      have hR := Rel.islice (g := g) i.size ((es.drop l).take (h - l)) (h == m) cb o (m - l) (by rw [hlen l h (by omega)]; omega) (by rw [hlen l h (by omega)]; exact hex') (by rw [h0]; simp)
                      rw [hlen l h (by omega)] at hR
                      exact hR
                    · rw [if_neg hcl] at hrun
                      refine ⟨_, hrun, ?_⟩
                      simp only [Option.map_some, add_mk]
                      have hR := Rel.islice (g := g) i.size ((es.drop l).take (h - l)) (h == m) cb (o + l * i.size) (m - l) (by rw [hlen l h (by omega)]; omega) (by rw [hlen l h (by omega)]; exact hex') (hsub l h hlh.1 (by omega))
                      rw [hlen l h (by omega)] at hR
                      exact hR
  · cases hv

end Go.NL
