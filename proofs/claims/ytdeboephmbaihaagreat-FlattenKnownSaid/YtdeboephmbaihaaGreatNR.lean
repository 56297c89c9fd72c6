/- THE N-LOGIC, part R: code, functions. -/
import Derived.Test.YtdeboephmbaihaaGreatNQ
import Derived.LoopN
set_option linter.unusedVariables false
set_option linter.unusedSimpArgs false
namespace Go.NL

theorem region_sound {P : Program} {m : Nat} {id : Nat} {ops : Array Oper} {draw : Bool} {is : List NI} {more : List (List NI)} (hc : compRegion P m ops draw = some (.region is more)) {K : Fr → Heap → Prop} {Q : Exit → Act → World → Prop} {g : G} {A : Heap} {w : World} {f : Fr} {a : Act}
    (hs : Sim g A w) (hf : RelF g m f a) (h : nrun P K is f A ∧ ∀ x ∈ more, nrun P K x f A) (hQ : ∀ g' A' w' f' a', Sim g' A' w' → RelF g' m f' a' → Ext g w g' w' → K f' A' → Q .normal a' w') : (Code.region id ops draw).wp P Q a w := by
  unfold compRegion at hc
  cases draw with
  | false =>
    simp only [Bool.false_eq_true, if_false, Option.map_eq_some_iff] at hc
    obtain ⟨l, hl, he⟩ := hc
    cases he
    exact wp_region (nrun_sound _ _ hl hs hf h.1 hQ)
  | true =>
    simp only [if_true] at hc
    split at hc
    · rename_i hok
      simp only [Bool.and_eq_true, List.all_eq_true] at hok
      obtain ⟨⟨⟨hmix, hreg⟩, hord⟩, hzip⟩ := hok
      have R := regOk hreg
      refine wp_region_draw fun t => ?_
      have hL : Region.schedule (P.follows .mixedOrders) ops (t) = Region.linearise .any ops t := by simp [Region.schedule, hmix]
      rw [hL]
      have hlin := lin_all R.lt t
      have hclosed : Closed ops (Region.before ops) [] := fun i hi => by cases hi
      have hmem := lin_ext R (Region.linearise .any ops t) [] ((List.range ops.size).filter (chainOf P ops (Region.before ops))) ops.size hlin hclosed (List.nodup_range.filter _) (fun c => by
        simp only [List.mem_filter, List.mem_range, List.not_mem_nil, not_false_eq_true, and_true]
        exact ⟨fun h => ⟨h.2, h.1⟩, fun h => ⟨h.2, h.1⟩⟩) (Nat.le_trans (List.length_filter_le _ _) (by simp))
      -- the order that stands for it
      generalize hexts : linExts (Region.before ops) ops.size ((List.range ops.size).filter (chainOf P ops (Region.before ops))) = exts at hc hzip hord hmem
      obtain ⟨k, hk, hke⟩ := List.getElem_of_mem hmem
      have hall : ∃ o is', orderOk ops (Region.before ops) (chainOf P ops (Region.before ops)) [] o = true ∧ o.filter (chainOf P ops (Region.before ops)) = (Region.linearise .any ops t).filter (chainOf P ops (Region.before ops)) ∧
          compSeq P m ops (Region.before ops) (chainOf P ops (Region.before ops)) [] o = some is' ∧ nrun P K is' f A := by
        let o := orderOf (Region.before ops) ops.size (chainOf P ops (Region.before ops)) exts[k] []
        have ho : o ∈ exts.map fun co => orderOf (Region.before ops) ops.size (chainOf P ops (Region.before ops)) co [] := List.mem_map.2 ⟨_, List.getElem_mem hk, rfl⟩
        have h1 := hord o ho
        have h2 : o.filter (chainOf P ops (Region.before ops)) = exts[k] := by
          have := hzip (exts[k], o) (by
            refine List.mem_iff_getElem.2 ⟨k, by simpa using hk, ?_⟩
            simp [o])
          simpa using this
        split at hc
        · rename_i s ss hss
          cases hc
          obtain ⟨is', his⟩ := mapM_all hss o ho
          refine ⟨o, is', h1, by rw [h2, hke], his, ?_⟩
          have hin : is' ∈ is :: more := by
            have key : ∀ (l : List (List Nat)) (r : List (List NI)), l.mapM (fun o => compSeq P m ops (Region.before ops) (chainOf P ops (Region.before ops)) [] o) = some r → ∀ o ∈ l, ∀ x, compSeq P m ops (Region.before ops) (chainOf P ops (Region.before ops)) [] o = some x → x ∈ r := by
              intro l
              induction l with
              | nil => intro r _ o ho; cases ho
              | cons y l ih =>
                intro r hr o ho x hx
                simp only [List.mapM_cons, Option.bind_eq_bind, Option.bind_eq_some_iff, Option.pure_def, Option.some.injEq] at hr
                obtain ⟨z, hz, rs, hrs, rfl⟩ := hr
                rcases List.mem_cons.1 ho with rfl | ho
                · rw [hx] at hz; cases hz; simp
                · exact List.mem_cons_of_mem _ (ih rs hrs o ho x hx)
            exact key _ _ hss o ho is' his
          rcases List.mem_cons.1 hin with rfl | hin
          · exact h.1
          · exact h.2 _ hin
        · cases hc
      obtain ⟨o, is', h1, h2, h3, h4⟩ := hall
      obtain ⟨hsd, hed⟩ := hs.drew
      have hquiet : ∀ i, i < ops.size → chainOf P ops (Region.before ops) i = false → ∃ o nop, ops[i]? = some o ∧ compOp P o.op = some nop ∧ nop.quiet = true := by
        intro i hi hch
        unfold chainOf at hch
        rw [Array.getElem?_eq_getElem hi] at hch
        simp only at hch
        split at hch
        · cases hch
        · rename_i nop hn
          simp only [Bool.or_eq_false_iff, Bool.not_eq_false'] at hch
          exact ⟨_, nop, Array.getElem?_eq_getElem hi, hn, hch.1⟩
      have hdlt : ∀ (i : Nat) (o : Oper), ops[i]? = some o → o.dst.all (· < m) = true := by
        intro i oi hoi
        have hi := (Array.getElem?_eq_some_iff.1 hoi).1
        have hin : i ∈ o := by
          rcases orderOk_all h1 i hi with h | h
          · cases h
          · exact h
        have key : ∀ (l pre : List Nat) (r : List NI), compSeq P m ops (Region.before ops) (chainOf P ops (Region.before ops)) pre l = some r → i ∈ l → oi.dst.all (· < m) = true := by
          intro l
          induction l with
          | nil => intro _ _ _ h; cases h
          | cons y l ih =>
            intro pre r hr hm
            obtain ⟨re, ni, is'', q1, q2, q3, _⟩ := compSeq_cons hr
            rcases List.mem_cons.1 hm with rfl | hm
            · obtain ⟨o', p1, _, _, _, _, p5, _⟩ := compNI_spec q2
              rw [hoi] at p1
              cases p1
              exact p5
            · exact ih _ _ q3 hm
        exact key o [] is' h3 hin
      refine draw_go (F := f) R hdlt hquiet _ [] [] o is' ⟨hlin, hclosed, hclosed, h1, h3, by rw [h2], (fun c hc => by cases hc), (fun c hc => by cases hc), (fun c hc => by cases hc), hsd, hf.ext hed, fun _ _ => rfl, (fun q hq => by cases hq), h4⟩ ?_
      exact fun g' A' w' f' a' r1 r2 r3 r4 => hQ g' A' w' f' a' r1 r2 (hed.trans r3) r4
    · cases hc

theorem compRegion_form {P : Program} {m : Nat} {ops : Array Oper} {draw : Bool} {nc : NC} (h : compRegion P m ops draw = some nc) : ∃ is more, nc = .region is more := by
  unfold compRegion at h
  split at h
  · simp only at h
    split at h
    · split at h
      · cases h; exact ⟨_, _, rfl⟩
      · cases h
    · cases h
  · simp only [Option.map_eq_some_iff] at h
    obtain ⟨l, _, rfl⟩ := h
    exact ⟨_, _, rfl⟩

theorem nwp_sound {P : Program} {m : Nat} : ∀ (code : Code) (nc : NC), compCode P m code = some nc → ∀ (Q : Post) {g : G} {A : Heap} {w : World} {f : Fr} {a : Act}, Sim g A w → RelF g m f a → nwp P nc Q f A → code.wp P (CPost g w m Q) a w := by
  intro code
  induction code with
  | skip =>
    intro nc hc Q g A w f a hs hf h
    simp only [compCode, Option.some.injEq] at hc
    subst hc
    exact wp_skip ⟨g, f, A, hs, hf, .refl hs, h⟩
  | label l =>
    intro nc hc Q g A w f a hs hf h
    simp only [compCode, Option.some.injEq] at hc
    subst hc
    exact wp_label ⟨g, f, A, hs, hf, .refl hs, h⟩
  | region id ops draw =>
    intro nc hc Q g A w f a hs hf h
    simp only [compCode] at hc
    obtain ⟨is, more, rfl⟩ := compRegion_form hc
    exact region_sound hc hs hf h fun g' A' w' f' a' r1 r2 r3 r4 => ⟨g', f', A', r1, r2, r3, r4⟩
  | seq x y ihx ihy =>
    intro nc hc Q g A w f a hs hf h
    simp only [compCode] at hc
    split at hc
    · rename_i nx ny hx hy
      cases hc
      simp only [nwp] at h
      refine wp_seq (wp_mono (ihx nx hx _ hs hf h) ?_)
      intro e a' w' he
      cases e with
      | normal =>
        obtain ⟨g', f', A', r1, r2, r3, r4⟩ := he
        exact wp_mono (ihy ny hy Q r1 r2 r4) (CPost.ext r3)
      | exit id => exact he
      | ret => exact he
      | goto l => exact he.elim
      | panic c => exact he.elim
      | outgrown => exact he.elim
    · cases hc
  | cond c x y ihx ihy =>
    intro nc hc Q g A w f a hs hf h
    simp only [compCode] at hc
    split at hc
    · rename_i c' nx ny hcc hx hy
      cases hc
      simp only [nwp] at h
      have hr := hf.ops _ _ hcc
      split at h
      · rename_i he
        rw [he] at hr
        exact wp_cond_true (rel_bool hr) (ihx nx hx Q hs hf h)
      · rename_i he
        rw [he] at hr
        exact wp_cond_false (rel_bool hr) (ihy ny hy Q hs hf h)
      · exact h.elim
    · cases hc
  | block id c ih =>
    intro nc hc Q g A w f a hs hf h
    simp only [compCode, Option.map_eq_some_iff] at hc
    obtain ⟨n, hn, rfl⟩ := hc
    simp only [nwp] at h
    refine wp_block (wp_mono (ih n hn _ hs hf h) ?_)
    intro e a' w' he
    cases e with
    | normal => exact he
    | exit id' =>
      obtain ⟨g', f', A', r1, r2, r3, r4⟩ := he
      simp only [Exit.inBlock]
      simp only [blockP] at r4
      split
      · rename_i hid
        rw [if_pos hid] at r4
        exact ⟨g', f', A', r1, r2, r3, r4⟩
      · rename_i hid
        rw [if_neg hid] at r4
        exact ⟨g', f', A', r1, r2, r3, r4⟩
    | ret => exact he
    | goto l => exact he.elim
    | panic c => exact he.elim
    | outgrown => exact he.elim
  | loop c ih =>
    intro nc hc Q g A w f a hs hf h
    simp only [compCode, Option.map_eq_some_iff] at hc
    obtain ⟨nb, hn, rfl⟩ := hc
    simp only [nwp] at h
    obtain ⟨n, h⟩ := h
    have key : ∀ n {g' : G} {A' : Heap} {w' : World} {f' : Fr} {a' : Act}, Ext g w g' w' → Sim g' A' w' → RelF g' m f' a' → nloop (nwp P nb) Q n f' A' → Code.rounds P c (CPost g w m Q) n a' w' := by
      intro n
      induction n with
      | zero => intro g' A' w' f' a' _ _ _ h; exact h.elim
      | succ n ihn =>
        intro g' A' w' f' a' he hs' hf' h
        rw [rounds_succ]
        refine wp_mono (ih nb hn _ hs' hf' h) ?_
        intro e a2 w2 h2
        cases e with
        | normal =>
          obtain ⟨g2, f2, A2, r1, r2, r3, r4⟩ := h2
          exact ihn (he.trans r3) r1 r2 r4
        | exit id => exact CPost.ext (Q := Q) he (.exit id) a2 w2 h2
        | ret => exact CPost.ext (Q := Q) he .ret a2 w2 h2
        | goto l => exact h2.elim
        | panic c => exact h2.elim
        | outgrown => exact h2.elim
    exact wp_loop_rounds n (key n (.refl hs) hs hf h)
  | exit id =>
    intro nc hc Q g A w f a hs hf h
    simp only [compCode, Option.some.injEq] at hc
    subst hc
    exact wp_exit ⟨g, f, A, hs, hf, .refl hs, h⟩
  | ret =>
    intro nc hc Q g A w f a hs hf h
    simp only [compCode, Option.some.injEq] at hc
    subst hc
    exact wp_ret ⟨g, f, A, hs, hf, .refl hs, h⟩
  | _ => intro nc hc; simp [compCode] at hc

end Go.NL
