/- THE N-LOGIC, part D: comparisons and sums. -/
import Derived.Test.YtdeboephmbaihaaGreatNC
import Derived.WalkSpells
set_option linter.unusedVariables false
set_option linter.unusedSimpArgs false
namespace Go.NL

theorem bytes_eq (a b : ByteArray) : (a == b) = decide (a.data.toList = b.data.toList) := by
  rw [beq_toListBytes, ByteArray.toList_eq, ByteArray.toList_eq]
  rw [Bool.eq_iff_iff]
  simp

theorem toList_beq (a b : ByteArray) : (a.toList == b.toList) = decide (a.data.toList = b.data.toList) := by
  rw [← beq_toListBytes, bytes_eq]

theorem eqk0_spec {P : Program} {t : TypeId} {k : EqK0} (h : eqk0 P t = some k) : match k with
    | .bool => P.underlying t = some .bool
    | .int => ∃ k', P.underlying t = some (.int k')
    | .str => P.underlying t = some .string := by
  unfold eqk0 at h
  split at h <;> cases h <;> simp_all

theorem sound_eq0 {P : Program} {g : G} {w : World} {t : TypeId} {k : EqK0} (h : eqk0 P t = some k) (d : Nat) {x y : AV} {X Y : Value} (hx : Rel g x X) (hy : Rel g y Y) {r : Bool} (hr : eq0 k x y = some r) :
    (Op.equalIn (d + 1) t X Y).run P w = .ok r w := by
  have hu := eqk0_spec h
  unfold eq0 at hr
  split at hr
  · cases hr
    rw [rel_bool hx, rel_bool hy]
    exact run_equalIn_bool w d t _ _ hu
  · split at hr
    · rename_i hk
      cases hr
      subst hk
      rw [rel_int hx, rel_int hy]
      obtain ⟨k', hu⟩ := hu
      rw [run_equalIn_int w d t _ k' _ _ hu]
      rfl
    · cases hr
  · cases hr
    obtain ⟨a, rfl, rfl⟩ := rel_str hx
    obtain ⟨b, rfl, rfl⟩ := rel_str hy
    rw [run_equalIn_string w d t _ _ hu, toList_beq]
  · cases hr

theorem sound_eqFields {P : Program} {g : G} {w : World} (d : Nat) {xs ys : List AV} {Xs Ys : Array Value} (hx : RelL g xs Xs) (hy : RelL g ys Ys) :
    ∀ {fs : List Field} {ks : List (Nat × EqK0)} (hk : (fs.mapM fun f => (eqk0 P f.type).map fun k => (f.offset, k)) = some ks) (hn : fs.any (fun f => f.name == "_") = false) (hone : ∀ f ∈ fs, aggOf P f.type = some none) {r : Bool} (hr : eqFields xs ys ks = some r),
      (Op.eqFields (d + 1) Xs Ys fs).run P w = .ok r w
  | [], ks, hk, _, _, r, hr => by
    simp at hk
    subst hk
    simp [eqFields] at hr
    subst hr
    simp [Op.eqFields]
  | f :: fs, ks, hk, hn, hone, r, hr => by
    simp only [List.mapM_cons, Option.bind_eq_bind, Option.bind_eq_some_iff, Option.pure_def, Option.some.injEq, Option.map_eq_some_iff] at hk
    obtain ⟨⟨o, k⟩, ⟨k', hk0, hk1⟩, ks', hks, rfl⟩ := hk
    cases hk1
    simp only [List.any_cons, Bool.or_eq_false_iff] at hn
    simp only [eqFields] at hr
    split at hr
    · rename_i a b ha hb
      split at hr
      · rename_i r0 s hr0 hs0
        cases hr
        obtain ⟨A, hA, hRA⟩ := hx.get? ha
        obtain ⟨B, hB, hRB⟩ := hy.get? hb
        have hag := hone f (by simp)
        obtain ⟨_, hagg⟩ := aggOf_none hag
        have hpa : (part f.type Xs f.offset).run P w = .ok A w := by simp [part, hagg, hA]
        have hpb : (part f.type Ys f.offset).run P w = .ok B w := by simp [part, hagg, hB]
        have he := sound_eq0 (w := w) hk0 d hRA hRB hr0
        have ih := sound_eqFields (w := w) d hx hy hks hn.2 (fun f hf => hone f (by simp [hf])) hs0
        have hne : f.name ≠ "_" := by
          have := hn.1
          simpa using this
        simp only [Op.eqFields, if_pos hne, Sem.run_bind, hpa, hpb, he, Result.andThen_ok]
        cases r0 <;> simp [ih]
      · cases hr
    · cases hr

theorem aggOf_of_eqk0 {P : Program} {t : TypeId} {k : EqK0} (h : eqk0 P t = some k) (hi : (P.info? t).isSome = true) : aggOf P t = some none := by
  have hu := eqk0_spec h
  obtain ⟨i, hi⟩ := Option.isSome_iff_exists.1 hi
  cases k
  · simp only at hu; simp [aggOf, hu, hi]
  · obtain ⟨k', hu⟩ := hu; simp [aggOf, hu, hi]
  · simp only at hu; simp [aggOf, hu, hi]

theorem info_of_underlying {P : Program} {t : TypeId} {d : TypeDesc} (h : P.underlying t = some d) : (P.info? t).isSome = true := by
  unfold Program.underlying at h
  split at h
  · rename_i hi; simp [hi]
  · rename_i hi; simp [hi]
  · cases h

theorem eqk0_info {P : Program} {t : TypeId} {k : EqK0} (h : eqk0 P t = some k) : (P.info? t).isSome = true := by
  have hu := eqk0_spec h
  cases k
  · exact info_of_underlying hu
  · exact info_of_underlying hu.choose_spec
  · exact info_of_underlying hu


theorem eqk_spec {P : Program} {t : TypeId} {k : EqK} (h : eqk P t = some k) : match k with
    | .bool => P.underlying t = some .bool
    | .int => ∃ k', P.underlying t = some (.int k')
    | .str => P.underlying t = some .string
    | .ptr => ∃ e, P.underlying t = some (.pointer e)
    | .slice => ∃ e, P.underlying t = some (.slice e)
    | .map => ∃ k e, P.underlying t = some (.map k e)
    | .func => ∃ a b c, P.underlying t = some (.func a b c)
    | .iface => ∃ ms, P.underlying t = some (.interface ms)
    | .struct ks => ∃ fs, P.underlying t = some (.struct fs) ∧ P.stoodInHeld t = false ∧ P.eqGuardType P.depth t = false ∧ fs.toList.any (fun f => f.name == "_") = false ∧ (fs.toList.mapM fun f => (eqk0 P f.type).map fun k => (f.offset, k)) = some ks := by
  unfold eqk at h
  split at h
  case h_9 fs hu =>
    split at h
    · cases h
    · rename_i hc
      simp only [Option.map_eq_some_iff] at h
      obtain ⟨ks, hk, rfl⟩ := h
      simp only [Bool.or_eq_true, not_or, Bool.not_eq_true] at hc
      exact ⟨fs, hu, hc.1.1, hc.1.2, hc.2, hk⟩
  all_goals first | (cases h; done) | (cases h; exact ⟨_, _, _, by assumption⟩) | (cases h; exact ⟨_, _, by assumption⟩) | (cases h; exact ⟨_, by assumption⟩) | (cases h; assumption)

theorem mapM_all {α β : Type} {f : α → Option β} : ∀ {l : List α} {r : List β}, l.mapM f = some r → ∀ a ∈ l, ∃ b, f a = some b
  | [], _, _, a, h => by cases h
  | x :: l, r, hr, a, h => by
    simp only [List.mapM_cons, Option.bind_eq_bind, Option.bind_eq_some_iff, Option.pure_def, Option.some.injEq] at hr
    obtain ⟨b, hb, rs, hrs, rfl⟩ := hr
    cases h with
    | head => exact ⟨b, hb⟩
    | tail _ h => exact mapM_all hrs a h

theorem sound_eq {P : Program} {g : G} {w : World} {t : TypeId} {k : EqK} (h : eqk P t = some k) {x y : AV} {X Y : Value} (hx : Rel g x X) (hy : Rel g y Y) {r : Bool} (hr : eqAV k x y = some r) :
    (Op.equal t X Y).run P w = .ok r w ∧ ∀ op xo yo, (eqGuard op t xo yo X Y).run P w = .ok () w := by
  have hu := eqk_spec h
  unfold Op.equal Op.maxDepth
  unfold eqAV at hr
  split at hr
  · cases hr; cases hx; cases hy
    exact ⟨run_equalIn_bool w _ t _ _ hu, fun op _ _ => by cases op <;> rfl⟩
  · split at hr
    · rename_i hk
      cases hr; cases hk; cases hx; cases hy
      obtain ⟨k', hu⟩ := hu
      refine ⟨?_, fun op _ _ => by cases op <;> rfl⟩
      rw [run_equalIn_int w _ t _ k' _ _ hu]
      rfl
    · cases hr
  · cases hr
    obtain ⟨a, rfl, rfl⟩ := rel_str hx
    obtain ⟨b, rfl, rfl⟩ := rel_str hy
    refine ⟨?_, fun op _ _ => by cases op <;> rfl⟩
    rw [run_equalIn_string w _ t _ _ hu, toList_beq]
  case h_22 =>
    obtain ⟨Xs, rfl, hX, _⟩ := rel_agg hx
    obtain ⟨Ys, rfl, hY, _⟩ := rel_agg hy
    obtain ⟨fs, hu, h1, h2, h3, h4⟩ := hu
    have hf : P.fieldsOf t = fs := by simp [Program.fieldsOf, hu]
    refine ⟨?_, fun op xo yo => run_eqGuard_agg w op t xo yo _ _ h2⟩
    rw [run_equalIn_struct w _ t _ _ (by rw [hf]; exact hu) h1, hf]
    refine sound_eqFields _ hX hY h4 h3 (fun f hfm => ?_) hr
    obtain ⟨b, hb⟩ := mapM_all h4 f hfm
    simp only [Option.map_eq_some_iff] at hb
    obtain ⟨k, hk, _⟩ := hb
    exact aggOf_of_eqk0 hk (eqk0_info hk)
  all_goals first | (cases hr; done) | skip
  all_goals (cases hr; cases hx; cases hy; refine ⟨?_, fun op _ _ => by cases op <;> rfl⟩)
  all_goals (rw [show (10000 : Nat) = 9999 + 1 from rfl]; generalize (9999 : Nat) = d)
  all_goals first
    | (obtain ⟨e, hu⟩ := hu; simp [Op.equalIn, run_underlying hu]; done)
    | (obtain ⟨k, e, hu⟩ := hu; simp [Op.equalIn, run_underlying hu]; done)
    | (obtain ⟨a, b, c, hu⟩ := hu; simp [Op.equalIn, run_underlying hu]; done)

/-! sums -/
theorem sound_binInt {P : Program} {g : G} {w : World} {op : BinOp} {t : TypeId} {k : IntKind} {a b : Int} {v : AV} (hv : binInt op k a b = some v) (h1 : op ≠ .shl) (h2 : op ≠ .shr) :
    ∃ V, (binOp op t (.int k a) (.int k b)).run P w = .ok V w ∧ Rel g v V := by
  have hbo : binOp op t (.int k a) (.int k b) = (match op with
    | .add | .sub | .mul => Op.intArith op k a b
    | .quo | .rem => Op.intDiv op k a b
    | .and | .or | .xor | .andNot => Op.intBits op k a b
    | .shl | .shr => Op.shift op k a k b
    | _ => Op.intCmp op a b) := by cases op <;> simp [binOp]
  rw [hbo]
  unfold binInt at hv
  cases op <;> simp only [reduceCtorEq] at hv
  case quo =>
    split at hv
    · cases hv
    · rename_i h; cases hv; exact ⟨_, by simp only [Op.intDiv, if_neg h, Sem.run_pure], .int _ _⟩
  case rem =>
    split at hv
    · cases hv
    · rename_i h; cases hv; exact ⟨_, by simp only [Op.intDiv, if_neg h, Sem.run_pure], .int _ _⟩
  all_goals cases hv
  all_goals first
    | (refine ⟨_, ?_, .int _ _⟩; rfl)
    | (refine ⟨_, ?_, .bool _⟩; rfl)

theorem sound_binStr {P : Program} {g : G} {w : World} {op : BinOp} {t : TypeId} {a b : ByteArray} {v : AV} (hv : binStr op a.data.toList b.data.toList = some v) :
    ∃ V, (binOp op t (.string a) (.string b)).run P w = .ok V w ∧ Rel g v V := by
  have hbo : binOp op t (.string a) (.string b) = Op.stringOp op a b := by cases op <;> rfl
  rw [hbo]
  have hsz : ∀ s : ByteArray, s.size = s.data.toList.length := fun s => by rw [Array.length_toList]; rfl
  have heq : (a.data.toList == b.data.toList) = decide (a.data.toList = b.data.toList) := by rw [Bool.eq_iff_iff]; simp
  have ha : a.toList = a.data.toList := ByteArray.toList_eq _
  have hb : b.toList = b.data.toList := ByteArray.toList_eq _
  unfold binStr at hv
  cases op <;> simp only [reduceCtorEq, Option.some.injEq] at hv
  case add =>
    split at hv
    · rename_i h
      cases hv
      have hle : ¬ (((a.size + b.size : Nat) : Int) > (IntKind.max .i64)) := by
        rw [hsz a, hsz b]
        simp only [IntKind.max, IntKind.signed, IntKind.bits]
        simp only [if_true]
        omega
      refine ⟨.string (a ++ b), by simp only [Op.stringOp, if_neg hle, Sem.run_pure], rel_str_mk _ _ ?_⟩
      simp
    · cases hv
  all_goals subst hv
  all_goals (simp only [Op.stringOp, ha, hb, heq, Sem.run_pure]; exact ⟨_, rfl, .bool _⟩)

theorem sound_bin {P : Program} {g : G} {w : World} {op : BinOp} {t : TypeId} {x y : AV} {X Y : Value} (hx : Rel g x X) (hy : Rel g y Y) {v : AV} (hv : binAV op (eqk P t) x y = some v) (xo yo : Operand) :
    ∃ V, (do eqGuard op t xo yo X Y; binOp op t X Y : Sem Value).run P w = .ok V w ∧ Rel g v V := by
  unfold binAV at hv
  split at hv
  · rename_i k a k' b
    rw [rel_int hx, rel_int hy]
    have hg : ∀ w, (eqGuard op t xo yo (.int k a) (.int k' b)).run P w = .ok () w := fun w => by cases op <;> rfl
    simp only [Sem.run_bind, hg, Result.andThen_ok]
    split at hv
    · split at hv
      · cases hv
      · rename_i h
        cases hv
        exact ⟨_, by simp [binOp, Op.shift, h], .int _ _⟩
    · split at hv
      · cases hv
      · rename_i h
        cases hv
        exact ⟨_, by simp [binOp, Op.shift, h], .int _ _⟩
    · rename_i h1 h2
      split at hv
      · rename_i hk
        subst hk
        exact sound_binInt hv (fun h => h1 h) (fun h => h2 h)
      · cases hv
  · obtain ⟨a, rfl, rfl⟩ := rel_str hx
    obtain ⟨b, rfl, rfl⟩ := rel_str hy
    have hg : ∀ w, (eqGuard op t xo yo (.string a) (.string b)).run P w = .ok () w := fun w => by cases op <;> rfl
    simp only [Sem.run_bind, hg, Result.andThen_ok]
    exact sound_binStr hv
  · rename_i hn1 hn2
    split at hv
    · rename_i e he
      simp only [Option.map_eq_some_iff] at hv
      obtain ⟨r, hr, rfl⟩ := hv
      obtain ⟨h1, h2⟩ := sound_eq (w := w) he hx hy hr
      refine ⟨.bool r, ?_, .bool _⟩
      simp only [Sem.run_bind, h2, Result.andThen_ok]
      have hb : binOp .eql t X Y = (do pure (.bool (← Op.equal t X Y))) := by
        cases hx <;> cases hy <;> first | rfl | (exfalso; exact hn1 _ _ _ _ rfl rfl) | (exfalso; exact hn2 _ _ rfl rfl)
      rw [hb]
      simp [h1]
    · rename_i e he
      simp only [Option.map_eq_some_iff] at hv
      obtain ⟨r, hr, rfl⟩ := hv
      obtain ⟨h1, h2⟩ := sound_eq (w := w) he hx hy hr
      refine ⟨.bool (!r), ?_, .bool _⟩
      simp only [Sem.run_bind, h2, Result.andThen_ok]
      have hb : binOp .neq t X Y = (do pure (.bool (!(← Op.equal t X Y)))) := by
        cases hx <;> cases hy <;> first | rfl | (exfalso; exact hn1 _ _ _ _ rfl rfl) | (exfalso; exact hn2 _ _ rfl rfl)
      rw [hb]
      simp [h1]
    · cases hv

end Go.NL
