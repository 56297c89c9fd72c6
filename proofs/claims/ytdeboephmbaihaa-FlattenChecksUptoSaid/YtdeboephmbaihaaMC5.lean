import Derived.Test.YtdeboephmbaihaaMC4
set_option linter.unusedVariables false

set_option maxRecDepth 10000
namespace Go.NL
open Go.Proofs
theorem tagsOk_take {ch : Bool} {l : List Int} (h : tagsOk ch l = true) (j : Nat) : tagsOk ch (l.take j) = true := by
  simp only [tagsOk, Bool.and_eq_true, decide_eq_true_eq, List.all_eq_true] at h ⊢
  exact ⟨fun x hx => h.1 x (List.mem_of_mem_take hx), h.2.sublist (List.take_sublist _ _)⟩
theorem tagsOk_succ {ch : Bool} {l : List Int} {i : Nat} (hi : i < l.length) (h : tagsOk ch (l.take i) = true) : tagsOk ch (l.take (i + 1)) = (okT ch l[i] && decide (l[i] ∉ l.take i)) := by
  have e : l.take (i + 1) = l.take i ++ [l[i]] := by rw [List.take_add_one, List.getElem?_eq_getElem hi]; rfl
  simp only [tagsOk, Bool.and_eq_true, decide_eq_true_eq] at h
  simp only [tagsOk]
  rw [e, List.all_append, h.1]
  simp only [List.nodup_append, h.2, List.all_cons, List.all_nil, Bool.and_true, Bool.true_and, true_and]
  congr 1
  rw [Bool.eq_iff_iff, decide_eq_true_eq, decide_eq_true_eq]
  simp only [List.mem_singleton, forall_eq]
  exact ⟨fun h hm => h.2 _ hm rfl, fun h => ⟨by simp, fun a ha e => h (e ▸ ha)⟩⟩
set_option maxHeartbeats 400000 in
theorem refTags_spec (l : List Int) (hl : l.length ≤ big) (nl : Bool) (ch : Bool) : NPure Try.prog F_gimletref25_tags [encSl nl 1 (l.map encInt), .bool ch] (.bool (tagsOk ch l)) := by
  have hbig : big = 1099511627776 := rfl
  refine NPure.walk c_gimletref25_tags (Nat.le_of_ble_eq_true rfl) fun A0 => ?_
  generalize hO : tagsOk ch l = O
  have hbad : ∀ j, tagsOk ch (l.take j) = false → O = false := fun j h => by
    rw [← hO]
    cases hq : tagsOk ch l
    · rfl
    · rw [tagsOk_take hq j] at h; cases h
  simp only [n_gimletref25_tags]
  refine nwp_then (fun f A => A0.le A ∧ f 0 = encSl nl 1 (l.map encInt) ∧ f 1 = .bool ch) ?_ ?_
  · simp only [n_gimletref25_tags_r0, go_sem]
    exact Here.mk ⟨.refl _, rfl, rfl⟩
  rintro f A ⟨hle, h0, h1⟩
  refine nwp_cut (fun f A => O = true ∧ A0.le A) ?_ ?_
  · refine nwp_then (fun f A => A0.le A ∧ f 0 = encSl nl 1 (l.map encInt) ∧ f 1 = .bool ch ∧ f 5 = .int .i64 0) ?_ ?_
    · simp only [n_gimletref25_tags_r1, go_sem]
      exact Here.mk ⟨hle, h0, h1, rfl⟩
    clear hle h0 h1
    rintro f A ⟨hle, h0, h1, h5⟩
    refine nwp_while (t := 10) (id := 0) (id2 := 1) l.length (fun i f A => i ≤ l.length ∧ tagsOk ch (l.take i) = true ∧ A0.le A ∧ f 0 = encSl nl 1 (l.map encInt) ∧ f 1 = .bool ch ∧ f 5 = .int .i64 i)
      (fun i f A => tagsOk ch (l.take i) = true ∧ A0.le A ∧ f 0 = encSl nl 1 (l.map encInt) ∧ f 1 = .bool ch ∧ f 5 = .int .i64 i)
      (fun i f A => tagsOk ch (l.take (i + 1)) = true ∧ A0.le A ∧ f 0 = encSl nl 1 (l.map encInt) ∧ f 1 = .bool ch ∧ f 5 = .int .i64 i) ⟨Nat.zero_le _, rfl, hle, h0, h1, h5⟩ ?_ ?_ ?_
    · rintro i f A ⟨hi, ha, hle, h0, h1, h5⟩
      simp only [n_gimletref25_tags_r2, h0, h5, lenAV_encSl, List.length_map, lt_dec, go_sem, Nat.reduceEqDiff, reduceCtorEq, ↓reduceIte, eq_self]
      refine Here.mk ⟨_, rfl, fun hb => ⟨of_decide_eq_true hb, ha, hle, h0, h1, h5⟩, fun hb => ⟨?_, hle⟩⟩
      have := of_decide_eq_false hb
      rwa [List.take_of_length_le (by omega), hO] at ha
    · rintro i f A hi ⟨ha, hle, h0, h1, h5⟩
      have hix := indexAddr_encSl nl 1 (l.map encInt) i (encInt l[i]) (by rw [List.getElem?_map, List.getElem?_eq_getElem hi]; rfl)
      have hsucc := tagsOk_succ hi ha
      have hbd := hbad (i + 1)
      rw [hsucc] at hbd ⊢
      simp only [encInt, AV.cells] at hix
      have hm1 := refNumber_spec l[i]
      have hm2 := refVariable_spec l[i]
      generalize hz : l[i] = z at hix hsucc hbd hm1 hm2 ⊢
      refine nwp_cut (fun f A => okT ch z = true ∧ A0.le A ∧ f 0 = encSl nl 1 (l.map encInt) ∧ f 1 = .bool ch ∧ f 5 = .int .i64 i) ?_ ?_
      · refine nwp_then (fun f A => (A0.le A ∧ f 0 = encSl nl 1 (l.map encInt) ∧ f 1 = .bool ch ∧ f 5 = .int .i64 i) ∧ f 33 = .bool (!okT ch z)) ?_ ?_
        · cases ch
          · simp only [n_gimletref25_tags_r3, h0, h1, h5, hix, go_sem, Nat.reduceEqDiff, reduceCtorEq, ↓reduceIte, Bool.false_eq_true, eq_self, Bool.not_false]
            refine hm2.call ?_
            simp only [go_sem, Nat.reduceEqDiff, ↓reduceIte, Bool.false_eq_true, eq_self]
            exact Here.mk ⟨⟨hle, h0, h1, h5⟩, rfl⟩
          · simp only [n_gimletref25_tags_r3, h0, h1, h5, hix, go_sem, Nat.reduceEqDiff, reduceCtorEq, ↓reduceIte, eq_self]
            refine hm1.call ?_
            simp only [go_sem, Nat.reduceEqDiff, ↓reduceIte, eq_self]
            refine ifBool_cases (fun hg => ?_) fun hg => ?_
            all_goals
              simp only [hg, h1, go_sem, Nat.reduceEqDiff, ↓reduceIte, Bool.false_eq_true, eq_self, Bool.not_true]
              refine Here.mk ⟨⟨hle, h0, h1, h5⟩, ?_⟩
              show AV.bool _ = AV.bool _
              simp only [okT, if_true]
              simp only [isNum] at hg
              first | rw [hg] | (congr 1; simpa using hg)
        clear hle h0 h1 h5
        rintro f A ⟨⟨hle, h0, h1, h5⟩, h33⟩
        refine nwp_test _ h33 (fun hc => ?_) fun hc => ?_
        · have hk : okT ch z = false := by simpa using hc
          have := hbd (by rw [hk]; rfl)
          subst this
          simp only [n_gimletref25_tags_r4, hle, go_sem, ↓reduceIte, Bool.false_eq_true, eq_self]
        · exact ⟨by simpa using hc, hle, h0, h1, h5⟩
      clear hle h0 h1 h5
      rintro f A ⟨hok, hle, h0, h1, h5⟩
      rw [hok, Bool.true_and] at hbd ⊢
      refine nwp_then (fun f A => A0.le A ∧ f 0 = encSl nl 1 (l.map encInt) ∧ f 1 = .bool ch ∧ f 5 = .int .i64 i ∧ f 6 = .int .i64 0) ?_ ?_
      · simp only [n_gimletref25_tags_r5, go_sem]
        exact Here.mk ⟨hle, h0, h1, h5, rfl⟩
      clear hle h0 h1 h5
      rintro f A ⟨hle, h0, h1, h5, h6⟩
      refine nwp_while (t := 36) (id := 2) (id2 := 3) i (fun k f A => k ≤ i ∧ z ∉ l.take k ∧ A0.le A ∧ f 0 = encSl nl 1 (l.map encInt) ∧ f 1 = .bool ch ∧ f 5 = .int .i64 i ∧ f 6 = .int .i64 k)
        (fun k f A => z ∉ l.take k ∧ A0.le A ∧ f 0 = encSl nl 1 (l.map encInt) ∧ f 1 = .bool ch ∧ f 5 = .int .i64 i ∧ f 6 = .int .i64 k)
        (fun k f A => z ∉ l.take (k + 1) ∧ A0.le A ∧ f 0 = encSl nl 1 (l.map encInt) ∧ f 1 = .bool ch ∧ f 5 = .int .i64 i ∧ f 6 = .int .i64 k) ⟨Nat.zero_le _, by simp, hle, h0, h1, h5, h6⟩ ?_ ?_ ?_
      · rintro k f A ⟨hk, hn, hle, h0, h1, h5, h6⟩
        simp only [n_gimletref25_tags_r6, h5, h6, lt_dec, go_sem, Nat.reduceEqDiff, ↓reduceIte, eq_self]
        refine Here.mk ⟨_, rfl, fun hb => ⟨of_decide_eq_true hb, hn, hle, h0, h1, h5, h6⟩, fun hb => ⟨?_, hle, h0, h1, h5⟩⟩
        have := of_decide_eq_false hb
        have hki : k = i := by omega
        subst hki
        simp [hn]
      · rintro k f A hk ⟨hn, hle, h0, h1, h5, h6⟩
        have hkl : k < l.length := by omega
        have hixk := indexAddr_encSl nl 1 (l.map encInt) k (encInt l[k]) (by rw [List.getElem?_map, List.getElem?_eq_getElem hkl]; rfl)
        have hnx : l.take (k + 1) = l.take k ++ [l[k]] := by rw [List.take_add_one, List.getElem?_eq_getElem hkl]; rfl
        have hmem : l[k] = z → z ∈ l.take i := fun h => by
          rw [← h]
          exact List.mem_iff_getElem?.2 ⟨k, by rw [List.getElem?_take, if_pos hk, List.getElem?_eq_getElem hkl]⟩
        rw [hnx]
        simp only [encInt, AV.cells] at hixk
        generalize l[k] = y at hixk hnx hmem ⊢
        refine nwp_then (fun f A => (A0.le A ∧ f 0 = encSl nl 1 (l.map encInt) ∧ f 1 = .bool ch ∧ f 5 = .int .i64 i ∧ f 6 = .int .i64 k) ∧ f 47 = .bool (decide (y = z))) ?_ ?_
        · simp only [n_gimletref25_tags_r7, h0, h5, h6, hix, hixk, go_sem, Nat.reduceEqDiff, reduceCtorEq, ↓reduceIte, eq_self]
          exact Here.mk ⟨⟨hle, h0, h1, h5, h6⟩, rfl⟩
        clear hle h0 h1 h5 h6
        rintro f A ⟨⟨hle, h0, h1, h5, h6⟩, h47⟩
        refine nwp_test _ h47 (fun hc => ?_) fun hc => ?_
        · have := hbd (by simp [hmem (of_decide_eq_true hc)])
          subst this
          simp only [n_gimletref25_tags_r8, hle, go_sem, ↓reduceIte, Bool.false_eq_true, eq_self]
        · have hne := of_decide_eq_false hc
          refine ⟨?_, hle, h0, h1, h5, h6⟩
          simp only [List.mem_append, List.mem_singleton, not_or]
          exact ⟨hn, fun h => hne h.symm⟩
      · rintro k f A hk ⟨hn, hle, h0, h1, h5, h6⟩
        have hw := wrap_succ (i := k) (N := i) hk (by omega)
        simp only [n_gimletref25_tags_r9, h6, hw, go_sem, ↓reduceIte, eq_self]
        exact Here.mk ⟨hk, hn, hle, h0, h1, h5, rfl⟩
    · rintro i f A hi ⟨ha, hle, h0, h1, h5⟩
      have hw := wrap_succ hi (by omega)
      simp only [n_gimletref25_tags_r11, h5, hw, go_sem, ↓reduceIte, eq_self]
      exact Here.mk ⟨hi, ha, hle, h0, h1, rfl⟩
  clear hle h0 h1
  rintro f A ⟨rfl, hle⟩
  simp only [n_gimletref25_tags_r13, hle, go_sem, ↓reduceIte, eq_self]
/-- May a part be, but for its own parts, as the document says? -/
def Core.own25 : Core → Bool
  | .mk k x n s na a nt t nl l =>
    if k = 1 ∨ k = 12 then (Core.mk k x n s na a nt t nl l).has false false false false && ((a.all Atom.ok && decide ((a.length : Int) = 1)) && decide ((l.length : Int) = 0))
    else if k = 2 ∨ k = 11 then (Core.mk k x n s na a nt t nl l).has true false false false && (isVar x && (decide ((a.length : Int) = 0) && decide ((l.length : Int) = 2)))
    else if k = 3 then (Core.mk k x n s na a nt t nl l).has false false true false && (decide (0 < takesOf s) && ((a.all Atom.ok && decide ((a.length : Int) = takesOf s)) && decide ((l.length : Int) = 0)))
    else if k = 4 then (Core.mk k x n s na a nt t nl l).has false true false false && (isVar n && (decide ((a.length : Int) ≤ 1024) && ((a.all Atom.ok && decide ((a.length : Int) = a.length)) && decide ((l.length : Int) = 0))))
    else if k = 5 then (Core.mk k x n s na a nt t nl l).has false true false false && (decide (0 ≤ n) && (decide (n < 1024) && ((a.all Atom.ok && decide ((a.length : Int) = 1)) && decide ((l.length : Int) = 0))))
    else if k = 6 then (Core.mk k x n s na a nt t nl l).has false false false false && ((a.all Atom.ok && decide ((a.length : Int) = 2)) && decide ((l.length : Int) = 0))
    else if k = 9 ∨ k = 10 then (Core.mk k x n s na a nt t nl l).has false false false true && ((a.all Atom.ok && decide ((a.length : Int) = 1)) && (tagsOk (decide (k = 10)) t && (decide (1 ≤ (l.length : Int)) && (decide ((l.length : Int) = t.length) || decide ((l.length : Int) = IntKind.i64.wrap (t.length + 1))))))
    else false
set_option maxHeartbeats 1000000 in
theorem refOwn_spec (c : Core) (ha : c.a.length ≤ big) (ht : c.tags.length ≤ big) (hL : c.l.length ≤ big) : NPure Try.prog F_gimletref25_Own [c.enc] (.bool c.own25) := by
  have hbig : big = 1099511627776 := rfl
  refine NPure.walk c_gimletref25_Own (Nat.le_of_ble_eq_true rfl) fun A0 => ?_
  have hte := c.take_enc
  have hone := c.one_enc
  have hhas := has_spec c
  obtain ⟨k, x, n, s, na, a, nt, t, nl, l⟩ := c
  simp only [Core.a, Core.tags, Core.l] at ha ht hL
  have hat := refAtoms_spec a ha na
  have htg := refTags_spec t ht nt
  have htk := Takes_spec s
  have hvx := refVariable_spec x
  have hvn := refVariable_spec n
  have hC : (Core.mk k x n s na a nt t nl l).enc.cells = [.int .i64 k, .int .i64 x, .int .i64 n, .str s, encSl na 3 (a.map Atom.enc), encSl nt 1 (t.map encInt), encSl nl 7 (l.map Core.enc)] := by simp only [Core.enc, encsL, AV.cells]
  rw [hC] at hte hone
  generalize hO : (Core.mk k x n s na a nt t nl l).own25 = O
  rw [Core.own25] at hO
  generalize (Core.mk k x n s na a nt t nl l).enc = ce at hte hhas hC ⊢
  generalize (Core.mk k x n s na a nt t nl l).has = H at hhas hO
  generalize a.all Atom.ok = AO at hat hO
  simp only [n_gimletref25_Own]
  refine nwp_then (fun f A => ∃ b, A0.le A ∧ f 1 = .ptr b 0 ∧ A b = some (.cells [.int .i64 k, .int .i64 x, .int .i64 n, .str s, encSl na 3 (a.map Atom.enc), encSl nt 1 (t.map encInt), encSl nl 7 (l.map Core.enc)])) ?_ ?_
  · simp only [n_gimletref25_Own_r0, hC, hone, go_sem, eq_self]
    intro b hb
    exact Here.mk ⟨b, (Heap.le.refl _).set hb, rfl, Heap.set_same _ _ _⟩
  rintro f A ⟨b, hle, h1, hb⟩
  refine nwp_then (fun f A => A0.le A ∧ f 1 = .ptr b 0 ∧ f 3 = .int .i64 l.length ∧ A b = some (.cells [.int .i64 k, .int .i64 x, .int .i64 n, .str s, encSl na 3 (a.map Atom.enc), encSl nt 1 (t.map encInt), encSl nl 7 (l.map Core.enc)])) ?_ ?_
  · simp only [n_gimletref25_Own_r1, h1, hb, lenAV_encSl, List.length_map, go_sem, ↓reduceIte, eq_self]
    exact Here.mk ⟨hle, h1, rfl, hb⟩
  clear hle h1 hb
  rintro f A ⟨hle, h1, h3, hb⟩
  refine nwp_cut (fun f A => O = false ∧ A0.le A) ?_ ?_
  · refine nwp_then (fun f A => A0.le A ∧ f 1 = .ptr b 0 ∧ f 3 = .int .i64 l.length ∧ f 9 = .int .i64 k ∧ A b = some (.cells [.int .i64 k, .int .i64 x, .int .i64 n, .str s, encSl na 3 (a.map Atom.enc), encSl nt 1 (t.map encInt), encSl nl 7 (l.map Core.enc)])) ?_ ?_
    · simp only [n_gimletref25_Own_r2, h1, hb, go_sem, ↓reduceIte, eq_self]
      exact Here.mk ⟨hle, h1, h3, rfl, hb⟩
    clear hle h1 h3 hb
    rintro f A ⟨hle, h1, h3, h9, hb⟩
    refine nwp_block ?_
    refine nwp_cut (fun f A => (A0.le A ∧ f 1 = .ptr b 0 ∧ f 3 = .int .i64 l.length ∧ f 9 = .int .i64 k ∧ A b = some (.cells [.int .i64 k, .int .i64 x, .int .i64 n, .str s, encSl na 3 (a.map Atom.enc), encSl nt 1 (t.map encInt), encSl nl 7 (l.map Core.enc)])) ∧ f 10 = .bool (decide (k = 1 ∨ k = 12))) ?_ ?_
    · refine nwp_or (decide (k = 1)) (fun f A => A0.le A ∧ f 1 = .ptr b 0 ∧ f 3 = .int .i64 l.length ∧ f 9 = .int .i64 k ∧ A b = some (.cells [.int .i64 k, .int .i64 x, .int .i64 n, .str s, encSl na 3 (a.map Atom.enc), encSl nt 1 (t.map encInt), encSl nl 7 (l.map Core.enc)])) ?_ (fun hc f A h ht => ⟨h, by rw [ht]; simp [of_decide_eq_true hc]⟩) fun hc f A h => ?_
      · simp only [n_gimletref25_Own_r3, h9, go_sem, ↓reduceIte, eq_self]
        exact Here.mk ⟨⟨hle, h1, h3, h9, hb⟩, rfl⟩
      · clear hle h1 h3 h9 hb
        obtain ⟨hle, h1, h3, h9, hb⟩ := h
        refine nwp_last (fun f A => (A0.le A ∧ f 1 = .ptr b 0 ∧ f 3 = .int .i64 l.length ∧ f 9 = .int .i64 k ∧ A b = some (.cells [.int .i64 k, .int .i64 x, .int .i64 n, .str s, encSl na 3 (a.map Atom.enc), encSl nt 1 (t.map encInt), encSl nl 7 (l.map Core.enc)])) ∧ f 10 = .bool (decide (k = 12))) ?_ fun f A h => ⟨h.1, by rw [h.2]; simp [of_decide_eq_false hc]⟩
        simp only [n_gimletref25_Own_r4, h9, go_sem, ↓reduceIte, eq_self]
        exact Here.mk ⟨⟨hle, h1, h3, h9, hb⟩, rfl⟩
    clear hle h1 h3 h9 hb
    rintro f A ⟨⟨hle, h1, h3, h9, hb⟩, ht⟩
    refine nwp_test _ ht (fun hc => ?_) fun hc => ?_
    · rw [if_pos (of_decide_eq_true hc)] at hO
      have hH := hhas false false false false
      generalize H false false false false = Hv at hH hO
      simp only [n_gimletref25_Own_r5, h1, hb, hte, go_sem, ↓reduceIte, eq_self]
      refine hH.call ?_
      clear hC hone hhas
      repeat' (first | (refine (hat _).call ?_) | (refine ifBool_cases (fun hg => ?_) fun hg => ?_) | (simp only [*, go_sem, Nat.reduceEqDiff, ↓reduceIte, Bool.false_eq_true, eq_self]))
      all_goals (subst hO; (try simp_all); (try (intros; omega)))
    rw [if_neg (of_decide_eq_false hc)] at hO
    clear hc ht
    refine nwp_cut (fun f A => (A0.le A ∧ f 1 = .ptr b 0 ∧ f 3 = .int .i64 l.length ∧ f 9 = .int .i64 k ∧ A b = some (.cells [.int .i64 k, .int .i64 x, .int .i64 n, .str s, encSl na 3 (a.map Atom.enc), encSl nt 1 (t.map encInt), encSl nl 7 (l.map Core.enc)])) ∧ f 24 = .bool (decide (k = 2 ∨ k = 11))) ?_ ?_
    · refine nwp_or (decide (k = 2)) (fun f A => A0.le A ∧ f 1 = .ptr b 0 ∧ f 3 = .int .i64 l.length ∧ f 9 = .int .i64 k ∧ A b = some (.cells [.int .i64 k, .int .i64 x, .int .i64 n, .str s, encSl na 3 (a.map Atom.enc), encSl nt 1 (t.map encInt), encSl nl 7 (l.map Core.enc)])) ?_ (fun hc f A h ht => ⟨h, by rw [ht]; simp [of_decide_eq_true hc]⟩) fun hc f A h => ?_
      · simp only [n_gimletref25_Own_r6, h9, go_sem, ↓reduceIte, eq_self]
        exact Here.mk ⟨⟨hle, h1, h3, h9, hb⟩, rfl⟩
      · clear hle h1 h3 h9 hb
        obtain ⟨hle, h1, h3, h9, hb⟩ := h
        refine nwp_last (fun f A => (A0.le A ∧ f 1 = .ptr b 0 ∧ f 3 = .int .i64 l.length ∧ f 9 = .int .i64 k ∧ A b = some (.cells [.int .i64 k, .int .i64 x, .int .i64 n, .str s, encSl na 3 (a.map Atom.enc), encSl nt 1 (t.map encInt), encSl nl 7 (l.map Core.enc)])) ∧ f 24 = .bool (decide (k = 11))) ?_ fun f A h => ⟨h.1, by rw [h.2]; simp [of_decide_eq_false hc]⟩
        simp only [n_gimletref25_Own_r7, h9, go_sem, ↓reduceIte, eq_self]
        exact Here.mk ⟨⟨hle, h1, h3, h9, hb⟩, rfl⟩
    clear hle h1 h3 h9 hb
    rintro f A ⟨⟨hle, h1, h3, h9, hb⟩, ht⟩
    refine nwp_test _ ht (fun hc => ?_) fun hc => ?_
    · rw [if_pos (of_decide_eq_true hc)] at hO
      have hH := hhas true false false false
      generalize H true false false false = Hv at hH hO
      simp only [n_gimletref25_Own_r8, h1, hb, hte, go_sem, ↓reduceIte, eq_self]
      refine hH.call ?_
      clear hC hone hhas
      repeat' (first | (refine (hvx).call ?_) | (refine ifBool_cases (fun hg => ?_) fun hg => ?_) | (simp only [*, lenAV_encSl, List.length_map, go_sem, Nat.reduceEqDiff, ↓reduceIte, Bool.false_eq_true, eq_self]))
      all_goals (subst hO; (try simp_all); (try (intros; omega)))
    rw [if_neg (of_decide_eq_false hc)] at hO
    clear hc ht
    refine nwp_then (fun f A => (A0.le A ∧ f 1 = .ptr b 0 ∧ f 3 = .int .i64 l.length ∧ f 9 = .int .i64 k ∧ A b = some (.cells [.int .i64 k, .int .i64 x, .int .i64 n, .str s, encSl na 3 (a.map Atom.enc), encSl nt 1 (t.map encInt), encSl nl 7 (l.map Core.enc)])) ∧ f 44 = .bool (decide (k = 3))) ?_ ?_
    · simp only [n_gimletref25_Own_r9, h9, go_sem, ↓reduceIte, eq_self]
      exact Here.mk ⟨⟨hle, h1, h3, h9, hb⟩, rfl⟩
    clear hle h1 h3 h9 hb
    rintro f A ⟨⟨hle, h1, h3, h9, hb⟩, ht⟩
    refine nwp_test _ ht (fun hc => ?_) fun hc => ?_
    · rw [if_pos (of_decide_eq_true hc)] at hO
      have hH := hhas false false true false
      generalize H false false true false = Hv at hH hO
      simp only [n_gimletref25_Own_r10, h1, hb, hte, go_sem, ↓reduceIte, eq_self]
      refine hH.call ?_
      clear hC hone hhas
      repeat' (first | (refine (hat _).call ?_) | (refine (htk).call ?_) | (refine ifBool_cases (fun hg => ?_) fun hg => ?_) | (simp only [*, go_sem, Nat.reduceEqDiff, ↓reduceIte, Bool.false_eq_true, decide_true, decide_false, eq_self]))
      all_goals (subst hO; (try simp_all); (try (intros; omega)))
    rw [if_neg (of_decide_eq_false hc)] at hO
    clear hc ht
    refine nwp_then (fun f A => (A0.le A ∧ f 1 = .ptr b 0 ∧ f 3 = .int .i64 l.length ∧ f 9 = .int .i64 k ∧ A b = some (.cells [.int .i64 k, .int .i64 x, .int .i64 n, .str s, encSl na 3 (a.map Atom.enc), encSl nt 1 (t.map encInt), encSl nl 7 (l.map Core.enc)])) ∧ f 66 = .bool (decide (k = 4))) ?_ ?_
    · simp only [n_gimletref25_Own_r11, h9, go_sem, ↓reduceIte, eq_self]
      exact Here.mk ⟨⟨hle, h1, h3, h9, hb⟩, rfl⟩
    clear hle h1 h3 h9 hb
    rintro f A ⟨⟨hle, h1, h3, h9, hb⟩, ht⟩
    refine nwp_test _ ht (fun hc => ?_) fun hc => ?_
    · rw [if_pos (of_decide_eq_true hc)] at hO
      have hH := hhas false true false false
      generalize H false true false false = Hv at hH hO
      simp only [n_gimletref25_Own_r12, h1, hb, hte, go_sem, ↓reduceIte, eq_self]
      refine hH.call ?_
      clear hC hone hhas
      repeat' (first | (refine (hat _).call ?_) | (refine (hvn).call ?_) | (refine ifBool_cases (fun hg => ?_) fun hg => ?_) | (simp only [*, lenAV_encSl, List.length_map, go_sem, Nat.reduceEqDiff, ↓reduceIte, Bool.false_eq_true, decide_true, eq_self]))
      all_goals (subst hO; (try simp_all); (try (intros; omega)))
    rw [if_neg (of_decide_eq_false hc)] at hO
    clear hc ht
    refine nwp_then (fun f A => (A0.le A ∧ f 1 = .ptr b 0 ∧ f 3 = .int .i64 l.length ∧ f 9 = .int .i64 k ∧ A b = some (.cells [.int .i64 k, .int .i64 x, .int .i64 n, .str s, encSl na 3 (a.map Atom.enc), encSl nt 1 (t.map encInt), encSl nl 7 (l.map Core.enc)])) ∧ f 93 = .bool (decide (k = 5))) ?_ ?_
    · simp only [n_gimletref25_Own_r13, h9, go_sem, ↓reduceIte, eq_self]
      exact Here.mk ⟨⟨hle, h1, h3, h9, hb⟩, rfl⟩
    clear hle h1 h3 h9 hb
    rintro f A ⟨⟨hle, h1, h3, h9, hb⟩, ht⟩
    refine nwp_test _ ht (fun hc => ?_) fun hc => ?_
    · rw [if_pos (of_decide_eq_true hc)] at hO
      have hH := hhas false true false false
      generalize H false true false false = Hv at hH hO
      simp only [n_gimletref25_Own_r14, h1, hb, hte, go_sem, ↓reduceIte, eq_self]
      refine hH.call ?_
      clear hC hone hhas
      repeat' (first | (refine (hat _).call ?_) | (refine ifBool_cases (fun hg => ?_) fun hg => ?_) | (simp only [*, go_sem, Nat.reduceEqDiff, ↓reduceIte, Bool.false_eq_true, eq_self]))
      all_goals (subst hO; (try simp_all); (try (intros; omega)))
    rw [if_neg (of_decide_eq_false hc)] at hO
    clear hc ht
    refine nwp_then (fun f A => (A0.le A ∧ f 1 = .ptr b 0 ∧ f 3 = .int .i64 l.length ∧ f 9 = .int .i64 k ∧ A b = some (.cells [.int .i64 k, .int .i64 x, .int .i64 n, .str s, encSl na 3 (a.map Atom.enc), encSl nt 1 (t.map encInt), encSl nl 7 (l.map Core.enc)])) ∧ f 116 = .bool (decide (k = 6))) ?_ ?_
    · simp only [n_gimletref25_Own_r15, h9, go_sem, ↓reduceIte, eq_self]
      exact Here.mk ⟨⟨hle, h1, h3, h9, hb⟩, rfl⟩
    clear hle h1 h3 h9 hb
    rintro f A ⟨⟨hle, h1, h3, h9, hb⟩, ht⟩
    refine nwp_test _ ht (fun hc => ?_) fun hc => ?_
    · rw [if_pos (of_decide_eq_true hc)] at hO
      have hH := hhas false false false false
      generalize H false false false false = Hv at hH hO
      simp only [n_gimletref25_Own_r16, h1, hb, hte, go_sem, ↓reduceIte, eq_self]
      refine hH.call ?_
      clear hC hone hhas
      repeat' (first | (refine (hat _).call ?_) | (refine ifBool_cases (fun hg => ?_) fun hg => ?_) | (simp only [*, go_sem, Nat.reduceEqDiff, ↓reduceIte, Bool.false_eq_true, eq_self]))
      all_goals (subst hO; (try simp_all); (try (intros; omega)))
    rw [if_neg (of_decide_eq_false hc)] at hO
    clear hc ht
    refine nwp_cut (fun f A => (A0.le A ∧ f 1 = .ptr b 0 ∧ f 3 = .int .i64 l.length ∧ f 9 = .int .i64 k ∧ A b = some (.cells [.int .i64 k, .int .i64 x, .int .i64 n, .str s, encSl na 3 (a.map Atom.enc), encSl nt 1 (t.map encInt), encSl nl 7 (l.map Core.enc)])) ∧ f 129 = .bool (decide (k = 9 ∨ k = 10))) ?_ ?_
    · refine nwp_or (decide (k = 9)) (fun f A => A0.le A ∧ f 1 = .ptr b 0 ∧ f 3 = .int .i64 l.length ∧ f 9 = .int .i64 k ∧ A b = some (.cells [.int .i64 k, .int .i64 x, .int .i64 n, .str s, encSl na 3 (a.map Atom.enc), encSl nt 1 (t.map encInt), encSl nl 7 (l.map Core.enc)])) ?_ (fun hc f A h ht => ⟨h, by rw [ht]; simp [of_decide_eq_true hc]⟩) fun hc f A h => ?_
      · simp only [n_gimletref25_Own_r17, h9, go_sem, ↓reduceIte, eq_self]
        exact Here.mk ⟨⟨hle, h1, h3, h9, hb⟩, rfl⟩
      · clear hle h1 h3 h9 hb
        obtain ⟨hle, h1, h3, h9, hb⟩ := h
        refine nwp_last (fun f A => (A0.le A ∧ f 1 = .ptr b 0 ∧ f 3 = .int .i64 l.length ∧ f 9 = .int .i64 k ∧ A b = some (.cells [.int .i64 k, .int .i64 x, .int .i64 n, .str s, encSl na 3 (a.map Atom.enc), encSl nt 1 (t.map encInt), encSl nl 7 (l.map Core.enc)])) ∧ f 129 = .bool (decide (k = 10))) ?_ fun f A h => ⟨h.1, by rw [h.2]; simp [of_decide_eq_false hc]⟩
        simp only [n_gimletref25_Own_r18, h9, go_sem, ↓reduceIte, eq_self]
        exact Here.mk ⟨⟨hle, h1, h3, h9, hb⟩, rfl⟩
    clear hle h1 h3 h9 hb
    rintro f A ⟨⟨hle, h1, h3, h9, hb⟩, ht⟩
    refine nwp_test _ ht (fun hc => ?_) fun hc => ?_
    · rw [if_pos (of_decide_eq_true hc)] at hO
      have htg := htg (decide (k = 10))
      generalize tagsOk (decide (k = 10)) t = TO at htg hO
      have hH := hhas false false false true
      generalize H false false false true = Hv at hH hO
      generalize hF : (decide (1 ≤ (l.length : Int)) && (decide ((l.length : Int) = t.length) || decide ((l.length : Int) = IntKind.i64.wrap (t.length + 1)))) = F at hO
      refine nwp_then (fun f A => (A0.le A ∧ f 1 = .ptr b 0 ∧ f 3 = .int .i64 l.length ∧ f 9 = .int .i64 k ∧ A b = some (.cells [.int .i64 k, .int .i64 x, .int .i64 n, .str s, encSl na 3 (a.map Atom.enc), encSl nt 1 (t.map encInt), encSl nl 7 (l.map Core.enc)])) ∧ f 4 = .bool F) ?_ ?_
      · clear hhas hC hone hat htk hvx hvn htg hH hte hO ht hc
        simp only [n_gimletref25_Own_r19, h3, go_sem, ↓reduceIte, eq_self]
        repeat' (first | (refine ifBool_cases (fun hg => ?_) fun hg => ?_) | (simp only [*, lenAV_encSl, List.length_map, go_sem, Nat.reduceEqDiff, ↓reduceIte, Bool.false_eq_true, eq_self]))
        all_goals
          refine Here.mk ⟨⟨hle, h1, h3, h9, hb⟩, ?_⟩
          show AV.bool _ = AV.bool _
          subst hF
          (try simp_all)
          (try (intros; omega))
      clear hle h1 h3 h9 hb
      rintro f A ⟨⟨hle, h1, h3, h9, hb⟩, h4⟩
      clear hF
      simp only [n_gimletref25_Own_r20, h1, hb, hte, go_sem, ↓reduceIte, eq_self]
      refine hH.call ?_
      clear hC hone hhas
      repeat' (first | (refine (hat _).call ?_) | (refine htg.call ?_) | (refine ifBool_cases (fun hg => ?_) fun hg => ?_) | (simp only [*, go_sem, Nat.reduceEqDiff, ↓reduceIte, Bool.false_eq_true, eq_self]))
      all_goals (subst hO; (try simp_all); (try (intros; omega)))
    · rw [if_neg (of_decide_eq_false hc)] at hO
      exact ⟨hO.symm, hle⟩
  rintro f A ⟨rfl, hle⟩
  simp only [n_gimletref25_Own_r21, hle, go_sem, ↓reduceIte, eq_self]
end Go.NL

set_option linter.unusedVariables false

set_option maxRecDepth 10000
namespace Go.NL
open Go.Proofs
/-- A flat program, its list of functions nil or not, if it is empty. -/
def encFlatN (nf : Bool) (funs : List FlatF) (main : Core) : AV := .agg (encSl nf 8 (encF funs) :: main.enc.cells)
theorem flatN_cells (nf : Bool) (funs : List FlatF) (main : Core) : (encFlatN nf funs main).cells = encSl nf 8 (encF funs) :: main.enc.cells := rfl
theorem takeFlatN (nf : Bool) (funs : List FlatF) (main : Core) : takeAV (some 8) (encFlatN nf funs main).cells 0 = some (encFlatN nf funs main) := take8 _ main
theorem oneFlatN (nf : Bool) (funs : List FlatF) (main : Core) : (encFlatN nf funs main).cells.all AV.one = true := by
  rw [flatN_cells, List.all_cons, main.one_enc, oneSl]
  rfl
variable {nf : Bool}
def Core.plain (c : Core) (x n t : Bool) : Bool := (x || decide (c.x = 0)) && (n || decide (c.n = 0)) && (t || decide (c.tags = [])) && decide (c.s = [])
set_option maxHeartbeats 2000000 in
theorem plain_spec (c : Core) (x n t : Bool) : NPure Try.prog F_gimletref26_plain [c.enc, .bool x, .bool n, .bool t] (.bool (c.plain x n t)) := by
  refine NPure.walk c_gimletref26_plain (Nat.le_of_ble_eq_true rfl) fun A => ?_
  have hone := c.one_enc
  obtain ⟨k, cx, cn, cs, na, a, nt, tg, nl, l⟩ := c
  have htl : decide (((tg.length : Nat) : Int) = 0) = decide (tg = []) := by
    cases tg <;> simp
    omega
  simp only [Core.plain, Core.x, Core.n, Core.s, Core.tags]
  simp only [Core.enc, cells_agg] at hone ⊢
  simp only [n_gimletref26_plain]
  refine nwp_then (fun f A' => ∃ b, A.le A' ∧ f 1 = .bool x ∧ f 2 = .bool n ∧ f 3 = .bool t ∧ f 4 = .ptr b 0 ∧ A' b = some (.cells [.int .i64 k, .int .i64 cx, .int .i64 cn, .str cs, encSl na 3 (a.map Atom.enc), encSl nt 1 (tg.map encInt), encSl nl 7 (Core.encs l)])) ?_ ?_
  · simp only [n_gimletref26_plain_r0, hone, go_sem, eq_self]
    intro b hb
    exact Here.mk ⟨b, (Heap.le.refl _).set hb, rfl, rfl, rfl, rfl, Heap.set_same _ _ _⟩
  rintro f A' ⟨b, hle, h1, h2, h3, h4, hb⟩
  cases x <;> cases n <;> cases t
  all_goals
    simp only [n_gimletref26_plain_r1, h1, h2, h3, h4, hb, lenAV_encSl, List.length_map, go_sem, Nat.reduceEqDiff, ↓reduceIte, Bool.false_eq_true, eq_self]
    repeat' (refine ifBool_cases (fun hg => ?_) fun hg => ?_; all_goals simp only [hg, h2, h3, h4, hb, lenAV_encSl, List.length_map, go_sem, Nat.reduceEqDiff, ↓reduceIte, Bool.false_eq_true, eq_self])
    all_goals (try simp_all)
  all_goals congr
theorem flat_fun (funs : List FlatF) {z : Int} (h0 : 0 ≤ z) (h1 : z < funs.length) : ∃ fc, indexAddrAV 8 none (encSl nf 8 (encF funs)) z = some (.iptr fc 0) ∧ takeAV none fc 0 = some (.int .i64 (freeOf funs z)) := by
  have hz : z.toNat < funs.length := by omega
  refine ⟨(FlatF.enc funs[z.toNat]).cells, ?_, ?_⟩
  · have := indexAddr_encSl nf 8 (encF funs) z.toNat (FlatF.enc funs[z.toNat]) (by simp [encF, List.getElem?_eq_getElem hz])
    rwa [Int.toNat_of_nonneg h0] at this
  · rw [freeOf, List.getD_eq_getElem?_getD, List.getElem?_eq_getElem hz]
    rfl
def Core.closes (funs : List FlatF) (c : Core) : Bool := c.plain false true false && (decide (0 ≤ c.n) && (decide (c.n < funs.length) && ((c.a.all Atom.ok && decide ((c.a.length : Int) = freeOf funs c.n)) && decide ((c.l.length : Int) = 0))))
theorem closes_spec (c : Core) (funs : List FlatF) (main : Core) (ha : c.a.length ≤ big) (hf : funs.length ≤ big) : NPure Try.prog F_gimletref26_closes [encFlatN nf funs main, c.enc] (.bool (c.closes funs)) := by
  refine NPure.walk c_gimletref26_closes (Nat.le_of_ble_eq_true rfl) fun A0 => ?_
  have hte := c.take_enc
  have hone := c.one_enc
  have hpl := plain_spec c false true false
  have hof := oneFlatN nf funs main
  have hfc := flatN_cells nf funs main
  obtain ⟨k, x, n, s, na, a, nt, t, nl, l⟩ := c
  simp only [Core.a] at ha
  have hat := refAtoms_spec a ha na
  have hC : (Core.mk k x n s na a nt t nl l).enc.cells = [.int .i64 k, .int .i64 x, .int .i64 n, .str s, encSl na 3 (a.map Atom.enc), encSl nt 1 (t.map encInt), encSl nl 7 (l.map Core.enc)] := by simp only [Core.enc, encsL, AV.cells]
  rw [hC] at hte hone
  have hfun := fun h0 h1 => flat_fun (nf := nf) funs (z := n) h0 h1
  have hlf : ∀ B, lenAV B .slice (encSl nf 8 (encF funs)) = some funs.length := fun B => by rw [lenAV_encSl, encF_len]
  simp only [Core.closes, Core.n, Core.a, Core.l]
  generalize (Core.mk k x n s na a nt t nl l).plain false true false = P at hpl ⊢
  generalize (Core.mk k x n s na a nt t nl l).enc = ce at hte hpl hC ⊢
  generalize a.all Atom.ok = AO at hat ⊢
  generalize encFlatN nf funs main = fl at hof hfc ⊢
  generalize encSl nf 8 (encF funs) = fv at hfc hfun hlf
  simp only [n_gimletref26_closes]
  refine nwp_then (fun f A => ∃ b2 b3, A0.le A ∧ f 2 = .ptr b2 0 ∧ f 3 = .ptr b3 0 ∧ A b2 = some (.cells (fv :: main.enc.cells)) ∧ A b3 = some (.cells [.int .i64 k, .int .i64 x, .int .i64 n, .str s, encSl na 3 (a.map Atom.enc), encSl nt 1 (t.map encInt), encSl nl 7 (l.map Core.enc)])) ?_ ?_
  · rw [hfc] at hof
    simp only [n_gimletref26_closes_r0, hC, hone, hof, hfc, go_sem, Nat.reduceEqDiff, ↓reduceIte, eq_self]
    rintro b2 hb2 b3 ⟨hne, _, hb3⟩
    have hb3' : (A0.set b2 (.cells (fv :: main.enc.cells))) b3 = none := by rw [Heap.set_other _ _ hne]; exact hb3
    exact Here.mk ⟨b2, b3, ((Heap.le.refl _).set hb2).set hb3', rfl, rfl, Heap.keep (Heap.set_same _ _ _) hb3', Heap.set_same _ _ _⟩
  rintro f A ⟨b2, b3, hle, h2, h3, hb2, hb3⟩
  simp only [n_gimletref26_closes_r1, h3, hb3, hte, go_sem, ↓reduceIte, eq_self]
  refine hpl.call ?_
  clear hC hone hof hfc
  by_cases hn0 : 0 ≤ n
  · by_cases hn1 : n < funs.length
    · obtain ⟨fc, hi1, hi2⟩ := hfun hn0 hn1
      have d0 : decide (0 ≤ n) = true := by simpa using hn0
      have d1 : decide (n < (funs.length : Int)) = true := by simpa using hn1
      repeat' (first | (refine (hat _).call ?_) | (refine ifBool_cases (fun hg => ?_) fun hg => ?_) | (simp only [*, lenAV_encSl, List.length_map, go_sem, Nat.reduceEqDiff, ↓reduceIte, Bool.false_eq_true, decide_true, eq_self]))
      all_goals (try simp_all)
    · have d0 : decide (0 ≤ n) = true := by simpa using hn0
      have d1 : decide (n < (funs.length : Int)) = false := by simpa using hn1
      repeat' (first | (refine ifBool_cases (fun hg => ?_) fun hg => ?_) | (simp only [*, go_sem, Nat.reduceEqDiff, ↓reduceIte, Bool.false_eq_true, decide_true, decide_false, eq_self]))
      all_goals (try simp_all)
  · have d0 : decide (0 ≤ n) = false := by simpa using hn0
    repeat' (first | (refine ifBool_cases (fun hg => ?_) fun hg => ?_) | (simp only [*, go_sem, Nat.reduceEqDiff, ↓reduceIte, Bool.false_eq_true, decide_false, eq_self]))
    all_goals (try simp_all)
end Go.NL

set_option linter.unusedVariables false

set_option maxRecDepth 10000
namespace Go.NL
open Go.Proofs
variable {nf : Bool}
def groupsBad (c : Core) : Bool := !c.plain true false true || (decide ((c.tags.length : Int) < 1) || (decide (1024 < (c.tags.length : Int)) || (decide (c.x < 0) || (decide (IntKind.i64.wrap (IntKind.i64.wrap (1048575 - c.tags.length) + 1) < c.x) || (!c.a.all Atom.ok || !decide ((c.l.length : Int) = 1))))))
def Core.groups (funs : List FlatF) (c : Core) : Bool := !groupsBad c && !(c.tags.any (tagBad funs c.a.length c.tags.length))
set_option maxHeartbeats 1000000 in
theorem groups_spec (c : Core) (funs : List FlatF) (main : Core) (ha : c.a.length ≤ big) (ht : c.tags.length ≤ big) (hf : funs.length ≤ big) : NPure Try.prog F_gimletref26_groups [encFlatN nf funs main, c.enc] (.bool (c.groups funs)) := by
  have hbig : big = 1099511627776 := rfl
  refine NPure.walk c_gimletref26_groups (Nat.le_of_ble_eq_true rfl) fun A0 => ?_
  have hte := c.take_enc
  have hone := c.one_enc
  have hpl := plain_spec c true false true
  have hof := oneFlatN nf funs main
  have hfc := flatN_cells nf funs main
  obtain ⟨k, x, n, s, na, a, nt, t, nl, l⟩ := c
  simp only [Core.a, Core.tags] at ha ht
  have hat := refAtoms_spec a ha na a.length
  rw [decide_eq_true (rfl : (a.length : Int) = a.length), Bool.and_true] at hat
  have hC : (Core.mk k x n s na a nt t nl l).enc.cells = [.int .i64 k, .int .i64 x, .int .i64 n, .str s, encSl na 3 (a.map Atom.enc), encSl nt 1 (t.map encInt), encSl nl 7 (l.map Core.enc)] := by simp only [Core.enc, encsL, AV.cells]
  rw [hC] at hte hone
  have hixA : ∀ z : Int, 0 ≤ z → z < funs.length → ∃ fc, indexAddrAV 8 none (encSl nf 8 (encF funs)) z = some (.iptr fc 0) ∧ takeAV none fc 0 = some (.int .i64 (freeOf funs z)) := fun z h0 h1 => flat_fun funs h0 h1
  have hlf : ∀ B, lenAV B .slice (encSl nf 8 (encF funs)) = some funs.length := fun B => by rw [lenAV_encSl, encF_len]
  generalize hO : (Core.mk k x n s na a nt t nl l).groups funs = O
  rw [show (Core.mk k x n s na a nt t nl l).groups funs = (!groupsBad (Core.mk k x n s na a nt t nl l) && !(t.any (tagBad funs a.length t.length))) from rfl] at hO
  generalize hB : groupsBad (Core.mk k x n s na a nt t nl l) = B at hO
  rw [show groupsBad (Core.mk k x n s na a nt t nl l) = (!(Core.mk k x n s na a nt t nl l).plain true false true || (decide ((t.length : Int) < 1) || (decide (1024 < (t.length : Int)) || (decide (x < 0) || (decide (IntKind.i64.wrap (IntKind.i64.wrap (1048575 - t.length) + 1) < x) || (!a.all Atom.ok || !decide ((l.length : Int) = 1))))))) from rfl] at hB
  generalize (Core.mk k x n s na a nt t nl l).plain true false true = P at hpl hB
  generalize (Core.mk k x n s na a nt t nl l).enc = ce at hte hpl hC ⊢
  generalize a.all Atom.ok = AO at hat hB
  generalize encFlatN nf funs main = fl at hof hfc ⊢
  generalize encSl nf 8 (encF funs) = fv at hfc hixA hlf
  simp only [n_gimletref26_groups]
  refine nwp_then (fun f A => ∃ b2 b3, A0.le A ∧ f 2 = .ptr b2 0 ∧ f 3 = .ptr b3 0 ∧ A b2 = some (.cells (fv :: main.enc.cells)) ∧ A b3 = some (.cells [.int .i64 k, .int .i64 x, .int .i64 n, .str s, encSl na 3 (a.map Atom.enc), encSl nt 1 (t.map encInt), encSl nl 7 (l.map Core.enc)])) ?_ ?_
  · rw [hfc] at hof
    simp only [n_gimletref26_groups_r0, hC, hone, hof, hfc, go_sem, Nat.reduceEqDiff, ↓reduceIte, eq_self]
    rintro b2 hb2 b3 ⟨hne, _, hb3⟩
    have hb3' : (A0.set b2 (.cells (fv :: main.enc.cells))) b3 = none := by rw [Heap.set_other _ _ hne]; exact hb3
    exact Here.mk ⟨b2, b3, ((Heap.le.refl _).set hb2).set hb3', rfl, rfl, Heap.keep (Heap.set_same _ _ _) hb3', Heap.set_same _ _ _⟩
  rintro f A ⟨b2, b3, hle, h2, h3, hb2, hb3⟩
  refine nwp_then (fun f A => A0.le A ∧ f 2 = .ptr b2 0 ∧ f 3 = .ptr b3 0 ∧ f 5 = .int .i64 t.length ∧ A b2 = some (.cells (fv :: main.enc.cells)) ∧ A b3 = some (.cells [.int .i64 k, .int .i64 x, .int .i64 n, .str s, encSl na 3 (a.map Atom.enc), encSl nt 1 (t.map encInt), encSl nl 7 (l.map Core.enc)])) ?_ ?_
  · simp only [n_gimletref26_groups_r1, h3, hb3, lenAV_encSl, List.length_map, go_sem, ↓reduceIte, eq_self]
    exact Here.mk ⟨hle, h2, h3, rfl, hb2, hb3⟩
  clear hle h2 h3 hb2 hb3 hC hone hof hfc
  rintro f A ⟨hle, h2, h3, h5, hb2, hb3⟩
  refine nwp_cut (fun f A => B = false ∧ A0.le A ∧ f 2 = .ptr b2 0 ∧ f 3 = .ptr b3 0 ∧ f 5 = .int .i64 t.length ∧ A b2 = some (.cells (fv :: main.enc.cells)) ∧ A b3 = some (.cells [.int .i64 k, .int .i64 x, .int .i64 n, .str s, encSl na 3 (a.map Atom.enc), encSl nt 1 (t.map encInt), encSl nl 7 (l.map Core.enc)])) ?_ ?_
  · refine nwp_then (fun f A => (A0.le A ∧ f 2 = .ptr b2 0 ∧ f 3 = .ptr b3 0 ∧ f 5 = .int .i64 t.length ∧ A b2 = some (.cells (fv :: main.enc.cells)) ∧ A b3 = some (.cells [.int .i64 k, .int .i64 x, .int .i64 n, .str s, encSl na 3 (a.map Atom.enc), encSl nt 1 (t.map encInt), encSl nl 7 (l.map Core.enc)])) ∧ f 48 = .bool B) ?_ ?_
    · simp only [n_gimletref26_groups_r2, h3, hb3, hte, go_sem, ↓reduceIte, eq_self]
      refine hpl.call ?_
      clear hixA hlf hO hte
      repeat' (first | (refine hat.call ?_) | (refine ifBool_cases (fun hg => ?_) fun hg => ?_) | (simp only [*, lenAV_encSl, List.length_map, go_sem, Nat.reduceEqDiff, ↓reduceIte, Bool.false_eq_true, eq_self]))
      all_goals
        refine Here.mk ⟨⟨hle, h2, h3, h5, hb2, hb3⟩, ?_⟩
        show AV.bool _ = AV.bool _
        subst hB
        simp only [*, Bool.true_or, Bool.false_or, Bool.or_true]
    clear hle h2 h3 h5 hb2 hb3
    rintro f A ⟨⟨hle, h2, h3, h5, hb2, hb3⟩, h48⟩
    refine nwp_test _ h48 (fun hc => ?_) fun hc => ?_
    · rw [hc] at hO
      simp only [Bool.not_true, Bool.false_and] at hO
      subst hO
      simp only [n_gimletref26_groups_r3, hle, go_sem, ↓reduceIte, eq_self]
    · exact ⟨hc, hle, h2, h3, h5, hb2, hb3⟩
  clear hle h2 h3 h5 hb2 hb3
  rintro f A ⟨hBf, hle, h2, h3, h5, hb2, hb3⟩
  rw [hBf, Bool.not_false, Bool.true_and] at hO
  refine nwp_cut (fun f A => O = true ∧ A0.le A) ?_ ?_
  · refine nwp_then (fun f A => (A0.le A ∧ f 2 = .ptr b2 0 ∧ f 3 = .ptr b3 0 ∧ f 5 = .int .i64 t.length ∧ A b2 = some (.cells (fv :: main.enc.cells)) ∧ A b3 = some (.cells [.int .i64 k, .int .i64 x, .int .i64 n, .str s, encSl na 3 (a.map Atom.enc), encSl nt 1 (t.map encInt), encSl nl 7 (l.map Core.enc)])) ∧ f 6 = .int .i64 0) ?_ ?_
    · simp only [n_gimletref26_groups_r4, go_sem]
      exact Here.mk ⟨⟨hle, h2, h3, h5, hb2, hb3⟩, rfl⟩
    clear hle h2 h3 h5 hb2 hb3
    rintro f A ⟨⟨hle, h2, h3, h5, hb2, hb3⟩, h6⟩
    refine nwp_while (t := 51) (id := 0) (id2 := 1) t.length (fun i f A => i ≤ t.length ∧ (t.take i).any (tagBad funs a.length t.length) = false ∧ (A0.le A ∧ f 2 = .ptr b2 0 ∧ f 3 = .ptr b3 0 ∧ f 5 = .int .i64 t.length ∧ A b2 = some (.cells (fv :: main.enc.cells)) ∧ A b3 = some (.cells [.int .i64 k, .int .i64 x, .int .i64 n, .str s, encSl na 3 (a.map Atom.enc), encSl nt 1 (t.map encInt), encSl nl 7 (l.map Core.enc)])) ∧ f 6 = .int .i64 i)
      (fun i f A => (t.take i).any (tagBad funs a.length t.length) = false ∧ (A0.le A ∧ f 2 = .ptr b2 0 ∧ f 3 = .ptr b3 0 ∧ f 5 = .int .i64 t.length ∧ A b2 = some (.cells (fv :: main.enc.cells)) ∧ A b3 = some (.cells [.int .i64 k, .int .i64 x, .int .i64 n, .str s, encSl na 3 (a.map Atom.enc), encSl nt 1 (t.map encInt), encSl nl 7 (l.map Core.enc)])) ∧ f 6 = .int .i64 i)
      (fun i f A => (t.take (i + 1)).any (tagBad funs a.length t.length) = false ∧ (A0.le A ∧ f 2 = .ptr b2 0 ∧ f 3 = .ptr b3 0 ∧ f 5 = .int .i64 t.length ∧ A b2 = some (.cells (fv :: main.enc.cells)) ∧ A b3 = some (.cells [.int .i64 k, .int .i64 x, .int .i64 n, .str s, encSl na 3 (a.map Atom.enc), encSl nt 1 (t.map encInt), encSl nl 7 (l.map Core.enc)])) ∧ f 6 = .int .i64 i) ⟨Nat.zero_le _, rfl, ⟨hle, h2, h3, h5, hb2, hb3⟩, h6⟩ ?_ ?_ ?_
    · rintro i f A ⟨hi, hany, ⟨hle, h2, h3, h5, hb2, hb3⟩, h6⟩
      simp only [n_gimletref26_groups_r5, h5, h6, lt_dec, go_sem, Nat.reduceEqDiff, ↓reduceIte, eq_self]
      refine Here.mk ⟨_, rfl, fun hb => ⟨of_decide_eq_true hb, hany, ⟨hle, h2, h3, h5, hb2, hb3⟩, h6⟩, fun hb => ⟨?_, hle⟩⟩
      have := of_decide_eq_false hb
      rw [List.take_of_length_le (by omega)] at hany
      rw [← hO, hany]
      rfl
    · rintro i f A hi ⟨hany, ⟨hle, h2, h3, h5, hb2, hb3⟩, h6⟩
      have hix := indexAddr_encSl nt 1 (t.map encInt) i (encInt t[i]) (by rw [List.getElem?_map, List.getElem?_eq_getElem hi]; rfl)
      have hnext : (t.take (i + 1)).any (tagBad funs a.length t.length) = tagBad funs a.length t.length t[i] := by rw [any_take_succ _ _ _ hi, hany, Bool.false_or]
      have hbad : tagBad funs a.length t.length t[i] = true → O = false := by
        intro h
        have : t.any (tagBad funs a.length t.length) = true := List.any_eq_true.2 ⟨t[i], List.getElem_mem hi, h⟩
        rw [← hO, this]
        rfl
      generalize t[i] = z at hix hnext hbad
      simp only [encInt, AV.cells] at hix
      refine nwp_then (fun f A => ((A0.le A ∧ f 2 = .ptr b2 0 ∧ f 3 = .ptr b3 0 ∧ f 5 = .int .i64 t.length ∧ A b2 = some (.cells (fv :: main.enc.cells)) ∧ A b3 = some (.cells [.int .i64 k, .int .i64 x, .int .i64 n, .str s, encSl na 3 (a.map Atom.enc), encSl nt 1 (t.map encInt), encSl nl 7 (l.map Core.enc)])) ∧ f 6 = .int .i64 i) ∧ f 88 = .bool (tagBad funs a.length t.length z)) ?_ ?_
      · by_cases hz0 : z < 0
        · have hd0 : decide (z < 0) = true := by simpa using hz0
          simp only [n_gimletref26_groups_r6, h3, h6, hb3, hix, hd0, go_sem, Nat.reduceEqDiff, ↓reduceIte, eq_self]
          refine Here.mk ⟨⟨⟨hle, h2, h3, h5, hb2, hb3⟩, h6⟩, ?_⟩
          show AV.bool _ = AV.bool _
          simp [tagBad, hz0]
        · have hd0 : decide (z < 0) = false := by simpa using hz0
          by_cases hz1 : (funs.length : Int) ≤ z
          · have hd1 : decide ((funs.length : Int) ≤ z) = true := by simpa using hz1
            simp only [n_gimletref26_groups_r6, h2, h3, h6, hb2, hb3, hix, hd0, hd1, hlf, go_sem, Nat.reduceEqDiff, ↓reduceIte, Bool.false_eq_true, eq_self]
            refine Here.mk ⟨⟨⟨hle, h2, h3, h5, hb2, hb3⟩, h6⟩, ?_⟩
            show AV.bool _ = AV.bool _
            simp [tagBad, hz1]
          · have hd1 : decide ((funs.length : Int) ≤ z) = false := by simpa using hz1
            obtain ⟨fc, hi1, hi2⟩ := hixA z (by omega) (by omega)
            simp only [n_gimletref26_groups_r6, h2, h3, h5, h6, hb2, hb3, hix, hd0, hd1, hlf, hi1, hi2, lenAV_encSl, List.length_map, go_sem, Nat.reduceEqDiff, ↓reduceIte, Bool.false_eq_true, eq_self]
            refine Here.mk ⟨⟨⟨hle, h2, h3, h5, hb2, hb3⟩, h6⟩, ?_⟩
            show AV.bool _ = AV.bool _
            simp [tagBad, hz0, hz1]
      clear hle h2 h3 h5 hb2 hb3 h6
      rintro f A ⟨⟨⟨hle, h2, h3, h5, hb2, hb3⟩, h6⟩, h88⟩
      refine nwp_test _ h88 (fun hc => ?_) fun hc => ?_
      · rw [hbad hc]
        simp only [n_gimletref26_groups_r7, hle, go_sem, ↓reduceIte, Bool.false_eq_true, eq_self]
      · exact ⟨by rw [hnext]; exact hc, ⟨hle, h2, h3, h5, hb2, hb3⟩, h6⟩
    · rintro i f A hi ⟨hany, ⟨hle, h2, h3, h5, hb2, hb3⟩, h6⟩
      have hw := wrap_succ hi (by omega)
      simp only [n_gimletref26_groups_r8, h6, hw, go_sem, ↓reduceIte, eq_self]
      exact Here.mk ⟨hi, hany, ⟨hle, h2, h3, h5, hb2, hb3⟩, rfl⟩
  clear hle h2 h3 h5 hb2 hb3
  rintro f A ⟨rfl, hle⟩
  simp only [n_gimletref26_groups_r10, hle, go_sem, ↓reduceIte, eq_self]
end Go.NL

set_option linter.unusedVariables false

set_option maxRecDepth 10000
namespace Go.NL
open Go.Proofs
variable {nf : Bool}
def Core.own26 (funs : List FlatF) (c : Core) : Bool := if c.kind = 13 then c.closes funs else if c.kind = 14 then c.groups funs else c.own25
mutual
def Core.may26 (funs : List FlatF) : Core → Bool
  | .mk k x n s na a nt t nl l => (Core.mk k x n s na a nt t nl l).own26 funs && Core.mays26 funs l
def Core.mays26 (funs : List FlatF) : List Core → Bool
  | [] => true
  | c :: cs => c.may26 funs && Core.mays26 funs cs
end
theorem Core.mays26_eq (funs : List FlatF) : ∀ l : List Core, Core.mays26 funs l = l.all (Core.may26 funs)
  | [] => by simp [Core.mays26]
  | c :: l => by rw [Core.mays26, Core.mays26_eq funs l]; simp
theorem all_take_succ {α : Type} (p : α → Bool) (l : List α) (i : Nat) (h : i < l.length) : (l.take (i + 1)).all p = ((l.take i).all p && p l[i]) := by
  rw [List.take_add_one, List.all_append, List.getElem?_eq_getElem h]
  simp
theorem all_take_false {α : Type} {p : α → Bool} {l : List α} {i : Nat} (h : (l.take i).all p = false) : l.all p = false := by
  rw [List.all_eq_false] at h ⊢
  obtain ⟨x, hx, h⟩ := h
  exact ⟨x, List.mem_of_mem_take hx, h⟩
set_option maxHeartbeats 1000000 in
theorem refMay_spec (funs : List FlatF) (main : Core) (hf : funs.length ≤ big) : ∀ (N : Nat) (c : Core), c.size ≤ N → c.small big = true → NPure Try.prog F_gimletref26_may [encFlatN nf funs main, c.enc] (.bool (c.may26 funs)) := by
  have hbig : big = 1099511627776 := rfl
  intro N
  induction N with
  | zero => intro c hc; cases c; simp [Core.size] at hc
  | succ N ih =>
    intro c hc hsm
    refine NPure.walk c_gimletref26_may (Nat.le_of_ble_eq_true rfl) fun A0 => ?_
    have hte := c.take_enc
    have hone := c.one_enc
    have htf := takeFlatN nf funs main
    have hof := oneFlatN nf funs main
    obtain ⟨k, x, n, s, na, a, nt, t, nl, l⟩ := c
    have hl : Core.sizes l ≤ N := by simp only [Core.size] at hc; omega
    simp only [Core.small, Bool.and_eq_true, decide_eq_true_eq] at hsm
    obtain ⟨⟨⟨sa, st⟩, sl⟩, sls⟩ := hsm
    have hcl := closes_spec (nf := nf) (Core.mk k x n s na a nt t nl l) funs main sa hf
    have hgr := groups_spec (nf := nf) (Core.mk k x n s na a nt t nl l) funs main sa st hf
    have how := refOwn_spec (Core.mk k x n s na a nt t nl l) sa st sl
    have hsub : ∀ y ∈ l, NPure Try.prog F_gimletref26_may [encFlatN nf funs main, y.enc] (.bool (y.may26 funs)) := fun y hy => ih y (Nat.le_trans (Core.size_mem hy) hl) (Core.smalls_mem sls y hy)
    have hC : (Core.mk k x n s na a nt t nl l).enc.cells = [.int .i64 k, .int .i64 x, .int .i64 n, .str s, encSl na 3 (a.map Atom.enc), encSl nt 1 (t.map encInt), encSl nl 7 (l.map Core.enc)] := by simp only [Core.enc, encsL, AV.cells]
    rw [hC] at hte hone
    rw [Core.may26, Core.mays26_eq]
    have hown : (Core.mk k x n s na a nt t nl l).own26 funs = if k = 13 then (Core.mk k x n s na a nt t nl l).closes funs else if k = 14 then (Core.mk k x n s na a nt t nl l).groups funs else (Core.mk k x n s na a nt t nl l).own25 := rfl
    generalize (Core.mk k x n s na a nt t nl l).own26 funs = OW at hown ⊢
    generalize (Core.mk k x n s na a nt t nl l).closes funs = OC at hcl hown
    generalize (Core.mk k x n s na a nt t nl l).groups funs = OG at hgr hown
    generalize (Core.mk k x n s na a nt t nl l).own25 = OO at how hown
    generalize (Core.mk k x n s na a nt t nl l).enc = ce at hte hcl hgr how hC ⊢
    generalize encFlatN nf funs main = fl at htf hof hcl hgr hsub ⊢
    generalize hO : (OW && l.all (Core.may26 funs)) = O
    clear ih
    simp only [n_gimletref26_may]
    refine nwp_then (fun f A => ∃ b2 b3, A0.le A ∧ f 2 = .ptr b2 0 ∧ f 3 = .ptr b3 0 ∧ A b2 = some (.cells fl.cells) ∧ A b3 = some (.cells [.int .i64 k, .int .i64 x, .int .i64 n, .str s, encSl na 3 (a.map Atom.enc), encSl nt 1 (t.map encInt), encSl nl 7 (l.map Core.enc)])) ?_ ?_
    · simp only [n_gimletref26_may_r0, hC, hone, hof, go_sem, Nat.reduceEqDiff, ↓reduceIte, eq_self]
      rintro b2 hb2 b3 ⟨hne, _, hb3⟩
      have hb3' : (A0.set b2 (.cells fl.cells)) b3 = none := by rw [Heap.set_other _ _ hne]; exact hb3
      exact Here.mk ⟨b2, b3, ((Heap.le.refl _).set hb2).set hb3', rfl, rfl, Heap.keep (Heap.set_same _ _ _) hb3', Heap.set_same _ _ _⟩
    rintro f A ⟨b2, b3, hle, h2, h3, hb2, hb3⟩
    refine nwp_then (fun f A => A0.le A ∧ f 2 = .ptr b2 0 ∧ f 3 = .ptr b3 0 ∧ A b2 = some (.cells fl.cells) ∧ A b3 = some (.cells [.int .i64 k, .int .i64 x, .int .i64 n, .str s, encSl na 3 (a.map Atom.enc), encSl nt 1 (t.map encInt), encSl nl 7 (l.map Core.enc)])) ?_ ?_
    · simp only [n_gimletref26_may_r1, go_sem]
      exact Here.mk ⟨hle, h2, h3, hb2, hb3⟩
    clear hle h2 h3 hb2 hb3 hC hone hof
    rintro f A ⟨hle, h2, h3, hb2, hb3⟩
    refine nwp_cut (fun f A => A0.le A ∧ f 2 = .ptr b2 0 ∧ f 3 = .ptr b3 0 ∧ A b2 = some (.cells fl.cells) ∧ A b3 = some (.cells [.int .i64 k, .int .i64 x, .int .i64 n, .str s, encSl na 3 (a.map Atom.enc), encSl nt 1 (t.map encInt), encSl nl 7 (l.map Core.enc)]) ∧ f 5 = .bool OW) ?_ ?_
    · refine nwp_then (fun f A => A0.le A ∧ f 2 = .ptr b2 0 ∧ f 3 = .ptr b3 0 ∧ A b2 = some (.cells fl.cells) ∧ A b3 = some (.cells [.int .i64 k, .int .i64 x, .int .i64 n, .str s, encSl na 3 (a.map Atom.enc), encSl nt 1 (t.map encInt), encSl nl 7 (l.map Core.enc)]) ∧ f 8 = .int .i64 k) ?_ ?_
      · simp only [n_gimletref26_may_r2, h3, hb3, go_sem, ↓reduceIte, eq_self]
        exact Here.mk ⟨hle, h2, h3, hb2, hb3, rfl⟩
      clear hle h2 h3 hb2 hb3
      rintro f A ⟨hle, h2, h3, hb2, hb3, h8⟩
      refine nwp_block ?_
      refine nwp_then (fun f A => (A0.le A ∧ f 2 = .ptr b2 0 ∧ f 3 = .ptr b3 0 ∧ A b2 = some (.cells fl.cells) ∧ A b3 = some (.cells [.int .i64 k, .int .i64 x, .int .i64 n, .str s, encSl na 3 (a.map Atom.enc), encSl nt 1 (t.map encInt), encSl nl 7 (l.map Core.enc)]) ∧ f 8 = .int .i64 k) ∧ f 11 = .bool (decide (k = 13))) ?_ ?_
      · simp only [n_gimletref26_may_r3, h8, go_sem, ↓reduceIte, eq_self]
        exact Here.mk ⟨⟨hle, h2, h3, hb2, hb3, h8⟩, rfl⟩
      clear hle h2 h3 hb2 hb3 h8
      rintro f A ⟨⟨hle, h2, h3, hb2, hb3, h8⟩, ht⟩
      refine nwp_test _ ht (fun hc => ?_) fun hc => ?_
      · rw [if_pos (of_decide_eq_true hc)] at hown
        refine nwp_last (fun f A => A0.le A ∧ f 2 = .ptr b2 0 ∧ f 3 = .ptr b3 0 ∧ A b2 = some (.cells fl.cells) ∧ A b3 = some (.cells [.int .i64 k, .int .i64 x, .int .i64 n, .str s, encSl na 3 (a.map Atom.enc), encSl nt 1 (t.map encInt), encSl nl 7 (l.map Core.enc)]) ∧ f 5 = .bool OC) ?_ fun f A h => by rw [hown]; exact h
        simp only [n_gimletref26_may_r4, h2, h3, hb2, hb3, hte, htf, go_sem, Nat.reduceEqDiff, ↓reduceIte, eq_self]
        refine hcl.call ?_
        try simp only [go_sem, Nat.reduceEqDiff, Nat.reduceAdd, Nat.reduceSub, Nat.reduceLeDiff, Nat.reduceLT, Nat.reduceMul, Int.reduceEq, Int.reduceLT, Int.reduceLE, Int.reduceNeg, Int.reduceToNat, Int.reduceAdd, Int.reduceSub, Int.cast_ofNat_Int, Int.cast_ofNat_Int, reduceCtorEq, ↓reduceIte, Bool.false_eq_true, decide_true, decide_false, eq_self, Bool.not_true, Bool.not_false]
        exact Here.mk ⟨hle, h2, h3, hb2, hb3, rfl⟩
      rw [if_neg (of_decide_eq_false hc)] at hown
      refine nwp_then (fun f A => (A0.le A ∧ f 2 = .ptr b2 0 ∧ f 3 = .ptr b3 0 ∧ A b2 = some (.cells fl.cells) ∧ A b3 = some (.cells [.int .i64 k, .int .i64 x, .int .i64 n, .str s, encSl na 3 (a.map Atom.enc), encSl nt 1 (t.map encInt), encSl nl 7 (l.map Core.enc)])) ∧ f 16 = .bool (decide (k = 14))) ?_ ?_
      · simp only [n_gimletref26_may_r5, h8, go_sem, ↓reduceIte, eq_self]
        exact Here.mk ⟨⟨hle, h2, h3, hb2, hb3⟩, rfl⟩
      clear hle h2 h3 hb2 hb3 h8 ht hc
      rintro f A ⟨⟨hle, h2, h3, hb2, hb3⟩, ht⟩
      refine nwp_test _ ht (fun hc => ?_) fun hc => ?_
      · rw [if_pos (of_decide_eq_true hc)] at hown
        refine nwp_last (fun f A => A0.le A ∧ f 2 = .ptr b2 0 ∧ f 3 = .ptr b3 0 ∧ A b2 = some (.cells fl.cells) ∧ A b3 = some (.cells [.int .i64 k, .int .i64 x, .int .i64 n, .str s, encSl na 3 (a.map Atom.enc), encSl nt 1 (t.map encInt), encSl nl 7 (l.map Core.enc)]) ∧ f 5 = .bool OG) ?_ fun f A h => by rw [hown]; exact h
        simp only [n_gimletref26_may_r6, h2, h3, hb2, hb3, hte, htf, go_sem, Nat.reduceEqDiff, ↓reduceIte, eq_self]
        refine hgr.call ?_
        try simp only [go_sem, Nat.reduceEqDiff, Nat.reduceAdd, Nat.reduceSub, Nat.reduceLeDiff, Nat.reduceLT, Nat.reduceMul, Int.reduceEq, Int.reduceLT, Int.reduceLE, Int.reduceNeg, Int.reduceToNat, Int.reduceAdd, Int.reduceSub, Int.cast_ofNat_Int, Int.cast_ofNat_Int, reduceCtorEq, ↓reduceIte, Bool.false_eq_true, decide_true, decide_false, eq_self, Bool.not_true, Bool.not_false]
        exact Here.mk ⟨hle, h2, h3, hb2, hb3, rfl⟩
      · rw [if_neg (of_decide_eq_false hc)] at hown
        refine nwp_last (fun f A => A0.le A ∧ f 2 = .ptr b2 0 ∧ f 3 = .ptr b3 0 ∧ A b2 = some (.cells fl.cells) ∧ A b3 = some (.cells [.int .i64 k, .int .i64 x, .int .i64 n, .str s, encSl na 3 (a.map Atom.enc), encSl nt 1 (t.map encInt), encSl nl 7 (l.map Core.enc)]) ∧ f 5 = .bool OO) ?_ fun f A h => by rw [hown]; exact h
        simp only [n_gimletref26_may_r7, h3, hb3, hte, go_sem, ↓reduceIte, eq_self]
        refine how.call ?_
        try simp only [go_sem, Nat.reduceEqDiff, Nat.reduceAdd, Nat.reduceSub, Nat.reduceLeDiff, Nat.reduceLT, Nat.reduceMul, Int.reduceEq, Int.reduceLT, Int.reduceLE, Int.reduceNeg, Int.reduceToNat, Int.reduceAdd, Int.reduceSub, Int.cast_ofNat_Int, Int.cast_ofNat_Int, reduceCtorEq, ↓reduceIte, Bool.false_eq_true, decide_true, decide_false, eq_self, Bool.not_true, Bool.not_false]
        exact Here.mk ⟨hle, h2, h3, hb2, hb3, rfl⟩
    clear hle h2 h3 hb2 hb3 hcl hgr how hown
    rintro f A ⟨hle, h2, h3, hb2, hb3, h5⟩
    refine nwp_cut (fun f A => A0.le A ∧ f 5 = .bool O) ?_ ?_
    · refine nwp_then (fun f A => (A0.le A ∧ f 2 = .ptr b2 0 ∧ f 3 = .ptr b3 0 ∧ A b2 = some (.cells fl.cells) ∧ A b3 = some (.cells [.int .i64 k, .int .i64 x, .int .i64 n, .str s, encSl na 3 (a.map Atom.enc), encSl nt 1 (t.map encInt), encSl nl 7 (l.map Core.enc)])) ∧ f 5 = .bool OW ∧ f 6 = .int .i64 0) ?_ ?_
      · simp only [n_gimletref26_may_r8, go_sem]
        exact Here.mk ⟨⟨hle, h2, h3, hb2, hb3⟩, h5, rfl⟩
      clear hle h2 h3 hb2 hb3 h5
      rintro f A ⟨⟨hle, h2, h3, hb2, hb3⟩, h5, h6⟩
      refine nwp_while (t := 28) (id := 1) (id2 := 2) l.length
        (fun i f A => i ≤ l.length ∧ (A0.le A ∧ f 2 = .ptr b2 0 ∧ f 3 = .ptr b3 0 ∧ A b2 = some (.cells fl.cells) ∧ A b3 = some (.cells [.int .i64 k, .int .i64 x, .int .i64 n, .str s, encSl na 3 (a.map Atom.enc), encSl nt 1 (t.map encInt), encSl nl 7 (l.map Core.enc)])) ∧ f 5 = .bool (OW && (l.take i).all (Core.may26 funs)) ∧ f 6 = .int .i64 i)
        (fun i f A => (OW && (l.take i).all (Core.may26 funs)) = true ∧ (A0.le A ∧ f 2 = .ptr b2 0 ∧ f 3 = .ptr b3 0 ∧ A b2 = some (.cells fl.cells) ∧ A b3 = some (.cells [.int .i64 k, .int .i64 x, .int .i64 n, .str s, encSl na 3 (a.map Atom.enc), encSl nt 1 (t.map encInt), encSl nl 7 (l.map Core.enc)])) ∧ f 6 = .int .i64 i)
        (fun i f A => (A0.le A ∧ f 2 = .ptr b2 0 ∧ f 3 = .ptr b3 0 ∧ A b2 = some (.cells fl.cells) ∧ A b3 = some (.cells [.int .i64 k, .int .i64 x, .int .i64 n, .str s, encSl na 3 (a.map Atom.enc), encSl nt 1 (t.map encInt), encSl nl 7 (l.map Core.enc)])) ∧ f 5 = .bool (OW && (l.take (i + 1)).all (Core.may26 funs)) ∧ f 6 = .int .i64 i) ⟨Nat.zero_le _, ⟨hle, h2, h3, hb2, hb3⟩, by rw [h5]; simp, h6⟩ ?_ ?_ ?_
      · rintro i f A ⟨hi, ⟨hle, h2, h3, hb2, hb3⟩, h5, h6⟩
        rcases Bool.eq_false_or_eq_true (OW && (l.take i).all (Core.may26 funs)) with hw | hw
        rotate_left
        · rw [hw] at h5
          simp only [n_gimletref26_may_r9, h5, go_sem, Nat.reduceEqDiff, ↓reduceIte, Bool.false_eq_true, eq_self]
          refine Here.mk ⟨_, rfl, fun hb => (by cases hb), fun _ => ⟨hle, ?_⟩⟩
          have e : f 5 = AV.bool O := by
            rw [h5, ← hO]
            congr 1
            cases OW
            · rfl
            · rw [Bool.true_and] at hw
              rw [all_take_false hw]
              rfl
          exact e
        · rw [hw] at h5
          simp only [n_gimletref26_may_r9, h3, h5, h6, hb3, lenAV_encSl, List.length_map, lt_dec, go_sem, Nat.reduceEqDiff, ↓reduceIte, eq_self]
          refine Here.mk ⟨_, rfl, fun hb => ⟨of_decide_eq_true hb, hw, ⟨hle, h2, h3, hb2, hb3⟩, h6⟩, fun hb => ⟨hle, ?_⟩⟩
          have := of_decide_eq_false hb
          rw [List.take_of_length_le (by omega), hO] at hw
          have e : f 5 = AV.bool O := by rw [h5, hw]
          exact e
      · rintro i f A hi ⟨hw, ⟨hle, h2, h3, hb2, hb3⟩, h6⟩
        have hix := indexAddr_encSl nl 7 (l.map Core.enc) i l[i].enc (by rw [List.getElem?_map, List.getElem?_eq_getElem hi]; rfl)
        have htey := l[i].take_enc
        have hsy := hsub l[i] (List.getElem_mem hi)
        rw [all_take_succ _ _ _ hi, ← Bool.and_assoc, hw, Bool.true_and]
        generalize l[i] = y at hix htey hsy ⊢
        refine nwp_last (fun f A => (A0.le A ∧ f 2 = .ptr b2 0 ∧ f 3 = .ptr b3 0 ∧ A b2 = some (.cells fl.cells) ∧ A b3 = some (.cells [.int .i64 k, .int .i64 x, .int .i64 n, .str s, encSl na 3 (a.map Atom.enc), encSl nt 1 (t.map encInt), encSl nl 7 (l.map Core.enc)])) ∧ f 5 = .bool (y.may26 funs) ∧ f 6 = .int .i64 i) ?_ fun f A h => h
        simp only [n_gimletref26_may_r10, h2, h3, h6, hb2, hb3, htf, hix, htey, go_sem, Nat.reduceEqDiff, ↓reduceIte, eq_self]
        refine hsy.call ?_
        try simp only [go_sem, Nat.reduceEqDiff, Nat.reduceAdd, Nat.reduceSub, Nat.reduceLeDiff, Nat.reduceLT, Nat.reduceMul, Int.reduceEq, Int.reduceLT, Int.reduceLE, Int.reduceNeg, Int.reduceToNat, Int.reduceAdd, Int.reduceSub, Int.cast_ofNat_Int, Int.cast_ofNat_Int, reduceCtorEq, ↓reduceIte, Bool.false_eq_true, decide_true, decide_false, eq_self, Bool.not_true, Bool.not_false]
        exact Here.mk ⟨⟨hle, h2, h3, hb2, hb3⟩, rfl, h6⟩
      · rintro i f A hi ⟨⟨hle, h2, h3, hb2, hb3⟩, h5, h6⟩
        have hw := wrap_succ hi (by omega)
        simp only [n_gimletref26_may_r11, h6, hw, go_sem, ↓reduceIte, eq_self]
        exact Here.mk ⟨hi, ⟨hle, h2, h3, hb2, hb3⟩, h5, rfl⟩
    clear hle h2 h3 hb2 hb3 h5
    rintro f A ⟨hle, h5⟩
    simp only [n_gimletref26_may_r13, h5, hle, go_sem, ↓reduceIte, eq_self]
def fun26 (funs : List FlatF) (p : FlatF) : Bool := decide (p.1 < 0) || (decide (1048575 < p.1) || !p.2.may26 funs)
def shapes26 (funs : List FlatF) (main : Core) : Bool := !(funs.any (fun26 funs)) && main.may26 funs
set_option maxHeartbeats 1000000 in
theorem shapes_spec (funs : List FlatF) (main : Core) (hf : funs.length ≤ big) (hm : main.small big = true) (hfs : ∀ p ∈ funs, p.2.small big = true) : NPure Try.prog F_gimletref26_shapes [encFlatN nf funs main] (.bool (shapes26 funs main)) := by
  have hbig : big = 1099511627776 := rfl
  refine NPure.walk c_gimletref26_shapes (Nat.le_of_ble_eq_true rfl) fun A0 => ?_
  have hmay : ∀ c : Core, c.small big = true → NPure Try.prog F_gimletref26_may [encFlatN nf funs main, c.enc] (.bool (c.may26 funs)) := fun c hc => refMay_spec funs main hf c.size c (Nat.le_refl _) hc
  have hof := oneFlatN nf funs main
  have htf := takeFlatN nf funs main
  have hfc := flatN_cells nf funs main
  have htm := take1 (encSl nf 8 (encF funs)) main
  have hlf : ∀ B, lenAV B .slice (encSl nf 8 (encF funs)) = some funs.length := fun B => by rw [lenAV_encSl, encF_len]
  have hix : ∀ i, (h : i < funs.length) → indexAddrAV 8 none (encSl nf 8 (encF funs)) (i : Int) = some (.iptr (.int .i64 funs[i].1 :: funs[i].2.enc.cells) 0) := fun i h => indexAddr_encSl nf 8 (encF funs) i (FlatF.enc funs[i]) (by simp [encF, List.getElem?_eq_getElem h])
  generalize hO : shapes26 funs main = O
  rw [shapes26] at hO
  have hmm := hmay main hm
  generalize main.may26 funs = MM at hmm hO
  generalize encFlatN nf funs main = fl at hmay hof htf hfc hmm ⊢
  generalize encSl nf 8 (encF funs) = fv at hfc htm hlf hix
  simp only [n_gimletref26_shapes]
  refine nwp_then (fun f A => ∃ b1, A0.le A ∧ f 1 = .ptr b1 0 ∧ A b1 = some (.cells (fv :: main.enc.cells))) ?_ ?_
  · simp only [n_gimletref26_shapes_r0, hof, go_sem, eq_self]
    intro b hb
    exact Here.mk ⟨b, (Heap.le.refl _).set hb, rfl, by rw [← hfc]; exact Heap.set_same _ _ _⟩
  rintro f A ⟨b1, hle, h1, hb1⟩
  rw [hfc] at htf
  refine nwp_cut (fun f A => funs.any (fun26 funs) = false ∧ A0.le A ∧ f 1 = .ptr b1 0 ∧ A b1 = some (.cells (fv :: main.enc.cells))) ?_ ?_
  · refine nwp_then (fun f A => (A0.le A ∧ f 1 = .ptr b1 0 ∧ A b1 = some (.cells (fv :: main.enc.cells))) ∧ f 3 = .int .i64 0) ?_ ?_
    · simp only [n_gimletref26_shapes_r1, go_sem]
      exact Here.mk ⟨⟨hle, h1, hb1⟩, rfl⟩
    clear hle h1 hb1
    rintro f A ⟨⟨hle, h1, hb1⟩, h3⟩
    refine nwp_while (t := 8) (id := 0) (id2 := 1) funs.length
      (fun i f A => i ≤ funs.length ∧ (funs.take i).any (fun26 funs) = false ∧ (A0.le A ∧ f 1 = .ptr b1 0 ∧ A b1 = some (.cells (fv :: main.enc.cells))) ∧ f 3 = .int .i64 i)
      (fun i f A => (funs.take i).any (fun26 funs) = false ∧ (A0.le A ∧ f 1 = .ptr b1 0 ∧ A b1 = some (.cells (fv :: main.enc.cells))) ∧ f 3 = .int .i64 i)
      (fun i f A => (funs.take (i + 1)).any (fun26 funs) = false ∧ (A0.le A ∧ f 1 = .ptr b1 0 ∧ A b1 = some (.cells (fv :: main.enc.cells))) ∧ f 3 = .int .i64 i) ⟨Nat.zero_le _, rfl, ⟨hle, h1, hb1⟩, h3⟩ ?_ ?_ ?_
    · rintro i f A ⟨hi, hany, ⟨hle, h1, hb1⟩, h3⟩
      simp only [n_gimletref26_shapes_r2, h1, h3, hb1, hlf, lt_dec, go_sem, Nat.reduceEqDiff, ↓reduceIte, eq_self]
      refine Here.mk ⟨_, rfl, fun hb => ⟨of_decide_eq_true hb, hany, ⟨hle, h1, hb1⟩, h3⟩, fun hb => ⟨?_, hle, h1, hb1⟩⟩
      have := of_decide_eq_false hb
      rwa [List.take_of_length_le (by omega)] at hany
    · rintro i f A hi ⟨hany, ⟨hle, h1, hb1⟩, h3⟩
      have hixi := hix i hi
      have hnext : (funs.take (i + 1)).any (fun26 funs) = fun26 funs funs[i] := by rw [any_take_succ _ _ _ hi, hany, Bool.false_or]
      have hbad : fun26 funs funs[i] = true → O = false := by
        intro h
        rw [List.any_eq_true.2 ⟨funs[i], List.getElem_mem hi, h⟩] at hO
        exact hO.symm
      have hmi := hmay funs[i].2 (hfs _ (List.getElem_mem hi))
      simp only [fun26] at hnext hbad
      generalize funs[i] = p at hixi hnext hbad hmi
      obtain ⟨pn, pc⟩ := p
      simp only at hixi hnext hbad hmi
      have ht7 := take1 (.int .i64 pn) pc
      generalize pc.enc = ce at hixi hmi ht7
      generalize pc.may26 funs = PM at hmi hnext hbad
      refine nwp_then (fun f A => ((A0.le A ∧ f 1 = .ptr b1 0 ∧ A b1 = some (.cells (fv :: main.enc.cells))) ∧ f 3 = .int .i64 i) ∧ f 37 = .bool (decide (pn < 0) || (decide (1048575 < pn) || !PM))) ?_ ?_
      · by_cases hz0 : pn < 0
        · have hd0 : decide (pn < 0) = true := by simpa using hz0
          simp only [n_gimletref26_shapes_r3, h1, h3, hb1, hixi, hd0, go_sem, Nat.reduceEqDiff, ↓reduceIte, eq_self]
          exact Here.mk ⟨⟨⟨hle, h1, hb1⟩, h3⟩, rfl⟩
        · have hd0 : decide (pn < 0) = false := by simpa using hz0
          by_cases hz1 : 1048575 < pn
          · have hd1 : decide (1048575 < pn) = true := by simpa using hz1
            simp only [n_gimletref26_shapes_r3, h1, h3, hb1, hixi, hd0, hd1, go_sem, Nat.reduceEqDiff, ↓reduceIte, Bool.false_eq_true, eq_self]
            exact Here.mk ⟨⟨⟨hle, h1, hb1⟩, h3⟩, rfl⟩
          · have hd1 : decide (1048575 < pn) = false := by simpa using hz1
            simp only [n_gimletref26_shapes_r3, h1, h3, hb1, hixi, hd0, hd1, ht7, htf, go_sem, Nat.reduceEqDiff, ↓reduceIte, Bool.false_eq_true, eq_self]
            refine hmi.call ?_
            simp only [go_sem, Nat.reduceEqDiff, ↓reduceIte, Bool.false_eq_true, eq_self]
            exact Here.mk ⟨⟨⟨hle, h1, hb1⟩, h3⟩, rfl⟩
      clear hle h1 h3 hb1
      rintro f A ⟨⟨⟨hle, h1, hb1⟩, h3⟩, ht⟩
      refine nwp_test _ ht (fun hc => ?_) fun hc => ?_
      · have := hbad hc
        subst this
        simp only [n_gimletref26_shapes_r4, hle, go_sem, ↓reduceIte, eq_self]
      · exact ⟨by rw [hnext]; exact hc, ⟨hle, h1, hb1⟩, h3⟩
    · rintro i f A hi ⟨hany, ⟨hle, h1, hb1⟩, h3⟩
      have hw := wrap_succ hi (by omega)
      simp only [n_gimletref26_shapes_r5, h3, hw, go_sem, ↓reduceIte, eq_self]
      exact Here.mk ⟨hi, hany, ⟨hle, h1, hb1⟩, rfl⟩
  clear hle h1 hb1
  rintro f A ⟨hany, hle, h1, hb1⟩
  rw [hany, Bool.not_false, Bool.true_and] at hO
  simp only [n_gimletref26_shapes_r7, h1, hb1, htf, htm, go_sem, Nat.reduceEqDiff, ↓reduceIte, eq_self]
  refine hmm.call ?_
  simp only [hle, hO, go_sem, eq_self]
end Go.NL

set_option linter.unusedVariables false

set_option maxRecDepth 10000
namespace Go.NL
open Go.Proofs
/-- A list of values in a block of the run's own. -/
def OutE (e : Nat) (A0 A : Heap) (v : AV) (es : List AV) : Prop := OutL e A0 A v es ∨ es = [] ∧ ∃ b, v = .slice e b 0 0 (.eq 0) ∧ A b = some (.cells []) ∧ A0 b = none
theorem append_E {e by_ : Nat} {A0 A : Heap} {v x : AV} {es ms : List AV} {K : AV → Heap → Prop} (hv : OutE e A0 A v es) (hle : A0.le A) (hx : srcAV A false e x = some (ms.length, ms.flatMap AV.cells)) (hes : ∀ x ∈ es, x.cells.length = e) (hlen : es.length + ms.length ≤ big) (hby : by_ ≤ 128)
    (hK : ∀ v' A', OutE e A0 A' v' (es ++ ms) → A0.le A' → (∀ c y, A c = some y → (∀ e o n k, v ≠ .slice e c o n k) → A' c = some y) → K v' A') : appendN A K false e by_ v x := by
  rcases hv with hv | ⟨rfl, b, rfl, hb, h0⟩
  · exact append_vals hv hle hx hes hlen hby fun v' A' h1 h2 h3 => hK v' A' (.inl h1) h2 h3
  · have hbig : big = 1099511627776 := rfl
    simp only [appendN, hx, hb, true_and]
    refine ⟨by simp, ?_⟩
    split
    · rename_i hm
      have hm : ms = [] := List.eq_nil_of_length_eq_zero hm
      subst hm
      exact hK _ _ (.inr ⟨rfl, b, rfl, hb, h0⟩) hle fun _ _ h _ => h
    · rename_i hm
      rw [if_neg (by simp only [Cap.low]; omega)]
      simp only [List.length_nil, Nat.zero_add] at hlen ⊢
      have h1 : ms.length * by_ ≤ ms.length * 128 := Nat.mul_le_mul_left _ hby
      refine ⟨⟨by omega, by omega⟩, by omega, fun b' hb' => hK _ _ (.inl (.inr ⟨b', rfl, by simp, hle.none hb', fun h => hm (by rw [List.nil_append] at h; rw [h]; rfl)⟩)) (hle.set hb') fun c y hc _ => ?_⟩
      rw [Heap.set_other _ _ (Heap.ne_of hc hb').symm]
      exact hc
theorem OutE.len {e : Nat} {A0 A : Heap} {v : AV} {es : List AV} (h : OutE e A0 A v es) : ∀ B, lenAV B .slice v = some es.length := by
  rcases h with h | ⟨rfl, b, rfl, _⟩
  · exact h.len
  · intro B; rfl
theorem OutE.one {e : Nat} {A0 A : Heap} {v : AV} {es : List AV} (h : OutE e A0 A v es) : v.one = true ∧ v.cells = [v] := by
  rcases h with h | ⟨rfl, b, rfl, _⟩
  · exact h.one
  · exact ⟨rfl, rfl⟩
/-- Numbers that are read: one of a block that stands, or one that never changes. -/
theorem IntsAt.get {A0 : Heap} {v : AV} {l : List Int} (h : IntsAt A0 v l) (i : Nat) (hi : i < l.length) : ∃ p, indexAddrAV 1 none v (i : Int) = some p ∧ ∀ A, A0.le A → loadAV A none p = some (.int .i64 l[i]) := by
  rcases h with ⟨nl, rfl⟩ | ⟨b, c, rfl, hb⟩
  · refine ⟨_, indexAddr_encSl nl 1 (l.map encInt) i (encInt l[i]) (by rw [List.getElem?_map, List.getElem?_eq_getElem hi]; rfl), fun A _ => rfl⟩
  · refine ⟨.ptr b (0 + i * 1), ?_, fun A hle => ?_⟩
    · simp [indexAddrAV, hi]
    · rw [load_blk, hle.get _ _ hb]
      simp [loadB, takeAV, ints, hi]
theorem among_spec {A0 : Heap} {v : AV} {l : List Int} (hv : IntsAt A0 v l) (hl : l.length ≤ big) (n : Int) : NAt A0 Try.prog F_gimletref26_among [v, .int .i64 n] (.bool (decide (n ∈ l))) := by
  have hbig : big = 1099511627776 := rfl
  refine NAt.walk c_gimletref26_among (Nat.le_of_ble_eq_true rfl) fun A1 hB => ?_
  have hlen := hv.len
  generalize hO : decide (n ∈ l) = O
  simp only [n_gimletref26_among]
  refine nwp_then (fun f A => A1.le A ∧ f 0 = v ∧ f 1 = .int .i64 n) ?_ ?_
  · simp only [n_gimletref26_among_r0, go_sem]
    exact Here.mk ⟨.refl _, rfl, rfl⟩
  rintro f A ⟨hle, h0, h1⟩
  refine nwp_cut (fun f A => O = false ∧ A1.le A) ?_ ?_
  · refine nwp_then (fun f A => (A1.le A ∧ f 0 = v ∧ f 1 = .int .i64 n) ∧ f 5 = .int .i64 0) ?_ ?_
    · simp only [n_gimletref26_among_r1, go_sem]
      exact Here.mk ⟨⟨hle, h0, h1⟩, rfl⟩
    clear hle h0 h1
    rintro f A ⟨⟨hle, h0, h1⟩, h5⟩
    refine nwp_while (t := 9) (id := 0) (id2 := 1) l.length (fun i f A => i ≤ l.length ∧ n ∉ l.take i ∧ (A1.le A ∧ f 0 = v ∧ f 1 = .int .i64 n) ∧ f 5 = .int .i64 i)
      (fun i f A => n ∉ l.take i ∧ (A1.le A ∧ f 0 = v ∧ f 1 = .int .i64 n) ∧ f 5 = .int .i64 i)
      (fun i f A => n ∉ l.take (i + 1) ∧ (A1.le A ∧ f 0 = v ∧ f 1 = .int .i64 n) ∧ f 5 = .int .i64 i) ⟨Nat.zero_le _, by simp, ⟨hle, h0, h1⟩, h5⟩ ?_ ?_ ?_
    · rintro i f A ⟨hi, ha, ⟨hle, h0, h1⟩, h5⟩
      simp only [n_gimletref26_among_r2, h0, h5, hlen, lt_dec, go_sem, Nat.reduceEqDiff, reduceCtorEq, ↓reduceIte, eq_self]
      refine Here.mk ⟨_, rfl, fun hb => ⟨of_decide_eq_true hb, ha, ⟨hle, h0, h1⟩, h5⟩, fun hb => ⟨?_, hle⟩⟩
      have := of_decide_eq_false hb
      rw [List.take_of_length_le (by omega)] at ha
      rw [← hO]
      simpa using ha
    · rintro i f A hi ⟨ha, ⟨hle, h0, h1⟩, h5⟩
      obtain ⟨p, hp1, hp2⟩ := hv.get i hi
      have hp2 := hp2 A (hB.trans hle)
      have hnx : l.take (i + 1) = l.take i ++ [l[i]] := by rw [List.take_add_one, List.getElem?_eq_getElem hi]; rfl
      have hmem : l[i] = n → O = true := fun h => by rw [← hO]; simp [← h]
      rw [hnx]
      generalize l[i] = y at hp2 hmem ⊢
      refine nwp_then (fun f A => ((A1.le A ∧ f 0 = v ∧ f 1 = .int .i64 n) ∧ f 5 = .int .i64 i) ∧ f 17 = .bool (decide (y = n))) ?_ ?_
      · simp only [n_gimletref26_among_r3, h0, h1, h5, hp1, hp2, go_sem, Nat.reduceEqDiff, ↓reduceIte, eq_self]
        exact Here.mk ⟨⟨⟨hle, h0, h1⟩, h5⟩, rfl⟩
      clear hle h0 h1 h5 hp2
      rintro f A ⟨⟨⟨hle, h0, h1⟩, h5⟩, ht⟩
      refine nwp_test _ ht (fun hc => ?_) fun hc => ?_
      · have := hmem (of_decide_eq_true hc)
        subst this
        simp only [n_gimletref26_among_r4, hle, go_sem, ↓reduceIte, eq_self]
      · have hne := of_decide_eq_false hc
        refine ⟨?_, ⟨hle, h0, h1⟩, h5⟩
        simp only [List.mem_append, List.mem_singleton, not_or]
        exact ⟨ha, fun h => hne h.symm⟩
    · rintro i f A hi ⟨ha, ⟨hle, h0, h1⟩, h5⟩
      have hw := wrap_succ hi (by omega)
      simp only [n_gimletref26_among_r5, h5, hw, go_sem, ↓reduceIte, eq_self]
      exact Here.mk ⟨hi, ha, ⟨hle, h0, h1⟩, rfl⟩
  clear hle h0 h1
  rintro f A ⟨rfl, hle⟩
  simp only [n_gimletref26_among_r7, hle, go_sem, ↓reduceIte, eq_self]
/-- Is a number twice, or not above a bound? -/
def twiceL (l : List Int) (bound : Int) : Bool := (List.range l.length).any fun i => decide (l.getD i 0 ≤ bound) || decide (l.getD i 0 ∈ l.take i)
theorem refTwice_spec (nl : Bool) (l : List Int) (hl : l.length ≤ big) (bound : Int) : NPure Try.prog F_gimletref26_twice [encSl nl 1 (l.map encInt), .int .i64 bound] (.bool (twiceL l bound)) := by
  have hbig : big = 1099511627776 := rfl
  refine NPure.walk c_gimletref26_twice (Nat.le_of_ble_eq_true rfl) fun A0 => ?_
  generalize hO : twiceL l bound = O
  rw [twiceL] at hO
  simp only [n_gimletref26_twice]
  refine nwp_then (fun f A => A0.le A ∧ f 0 = encSl nl 1 (l.map encInt) ∧ f 1 = .int .i64 bound) ?_ ?_
  · simp only [n_gimletref26_twice_r0, go_sem]
    exact Here.mk ⟨.refl _, rfl, rfl⟩
  rintro f A ⟨hle, h0, h1⟩
  refine nwp_cut (fun f A => O = false ∧ A0.le A) ?_ ?_
  · refine nwp_then (fun f A => (A0.le A ∧ f 0 = encSl nl 1 (l.map encInt) ∧ f 1 = .int .i64 bound) ∧ f 5 = .int .i64 0) ?_ ?_
    · simp only [n_gimletref26_twice_r1, go_sem]
      exact Here.mk ⟨⟨hle, h0, h1⟩, rfl⟩
    clear hle h0 h1
    rintro f A ⟨⟨hle, h0, h1⟩, h5⟩
    refine nwp_while (t := 9) (id := 0) (id2 := 1) l.length (fun i f A => i ≤ l.length ∧ ((List.range i).any fun i => decide (l.getD i 0 ≤ bound) || decide (l.getD i 0 ∈ l.take i)) = false ∧ (A0.le A ∧ f 0 = encSl nl 1 (l.map encInt) ∧ f 1 = .int .i64 bound) ∧ f 5 = .int .i64 i)
      (fun i f A => ((List.range i).any fun i => decide (l.getD i 0 ≤ bound) || decide (l.getD i 0 ∈ l.take i)) = false ∧ (A0.le A ∧ f 0 = encSl nl 1 (l.map encInt) ∧ f 1 = .int .i64 bound) ∧ f 5 = .int .i64 i)
      (fun i f A => ((List.range (i + 1)).any fun i => decide (l.getD i 0 ≤ bound) || decide (l.getD i 0 ∈ l.take i)) = false ∧ (A0.le A ∧ f 0 = encSl nl 1 (l.map encInt) ∧ f 1 = .int .i64 bound) ∧ f 5 = .int .i64 i) ⟨Nat.zero_le _, by simp, ⟨hle, h0, h1⟩, h5⟩ ?_ ?_ ?_
    · rintro i f A ⟨hi, ha, ⟨hle, h0, h1⟩, h5⟩
      simp only [n_gimletref26_twice_r2, h0, h5, lenAV_encSl, List.length_map, lt_dec, go_sem, Nat.reduceEqDiff, reduceCtorEq, ↓reduceIte, eq_self]
      refine Here.mk ⟨_, rfl, fun hb => ⟨of_decide_eq_true hb, ha, ⟨hle, h0, h1⟩, h5⟩, fun hb => ⟨?_, hle⟩⟩
      have := of_decide_eq_false hb
      rw [show i = l.length by omega] at ha
      rw [← hO, ha]
    · rintro i f A hi ⟨ha, ⟨hle, h0, h1⟩, h5⟩
      have hix := indexAddr_encSl nl 1 (l.map encInt) i (encInt l[i]) (by rw [List.getElem?_map, List.getElem?_eq_getElem hi]; rfl)
      have hsl := slice_encSl nl 1 (l.map encInt) i (by simp; omega) (by intro h; have := congrArg List.length h; simp at this; simp [this] at hi)
      rw [← List.map_take] at hsl
      have hget : l.getD i 0 = l[i] := by simp [List.getD_eq_getElem?_getD, List.getElem?_eq_getElem hi]
      have hnext : ((List.range (i + 1)).any fun i => decide (l.getD i 0 ≤ bound) || decide (l.getD i 0 ∈ l.take i)) = (decide (l[i] ≤ bound) || decide (l[i] ∈ l.take i)) := by
        rw [List.range_succ, List.any_append, ha, Bool.false_or]
        simp only [List.any_cons, List.any_nil, Bool.or_false, hget]
      have hbad : (decide (l[i] ≤ bound) || decide (l[i] ∈ l.take i)) = true → O = true := fun h => by
        rw [← hO, List.any_eq_true]
        exact ⟨i, by simpa using hi, by rw [hget]; exact h⟩
      rw [hnext]
      have ham := fun y => (among_spec (A0 := fun _ => none) (.inl ⟨false, rfl⟩) (l := l.take i) (by rw [List.length_take]; omega) y).pure
      generalize l[i] = y at hix hbad ⊢
      have ham := ham y
      simp only [encInt, AV.cells] at hix
      refine nwp_then (fun f A => ((A0.le A ∧ f 0 = encSl nl 1 (l.map encInt) ∧ f 1 = .int .i64 bound) ∧ f 5 = .int .i64 i) ∧ f 27 = .bool (decide (y ≤ bound) || decide (y ∈ l.take i))) ?_ ?_
      · by_cases hyb : y ≤ bound
        · have hd : decide (y ≤ bound) = true := by simpa using hyb
          simp only [n_gimletref26_twice_r3, h0, h1, h5, hix, hd, go_sem, Nat.reduceEqDiff, ↓reduceIte, eq_self]
          exact Here.mk ⟨⟨⟨hle, h0, h1⟩, h5⟩, rfl⟩
        · have hd : decide (y ≤ bound) = false := by simpa using hyb
          have hix' := hix
          simp only [n_gimletref26_twice_r3, h0, h1, h5, hix, hd, hsl, go_sem, Nat.reduceEqDiff, reduceCtorEq, ↓reduceIte, Bool.false_eq_true, eq_self]
          refine ham.call ?_
          try simp only [hd, go_sem, Nat.reduceEqDiff, Nat.reduceAdd, Nat.reduceSub, Nat.reduceLeDiff, Nat.reduceLT, Nat.reduceMul, Int.reduceEq, Int.reduceLT, Int.reduceLE, Int.reduceNeg, Int.reduceToNat, Int.reduceAdd, Int.reduceSub, Int.cast_ofNat_Int, Int.cast_ofNat_Int, reduceCtorEq, ↓reduceIte, Bool.false_eq_true, decide_true, decide_false, eq_self, Bool.not_true, Bool.not_false]
          exact Here.mk ⟨⟨⟨hle, h0, h1⟩, h5⟩, rfl⟩
      clear hle h0 h1 h5
      rintro f A ⟨⟨⟨hle, h0, h1⟩, h5⟩, ht⟩
      refine nwp_test _ ht (fun hc => ?_) fun hc => ?_
      · have := hbad hc
        subst this
        simp only [n_gimletref26_twice_r4, hle, go_sem, ↓reduceIte, eq_self]
      · exact ⟨hc, ⟨hle, h0, h1⟩, h5⟩
    · rintro i f A hi ⟨ha, ⟨hle, h0, h1⟩, h5⟩
      have hw := wrap_succ hi (by omega)
      simp only [n_gimletref26_twice_r5, h5, hw, go_sem, ↓reduceIte, eq_self]
      exact Here.mk ⟨hi, by first | exact ha | (rw [List.range_succ] at ha; exact ha), ⟨hle, h0, h1⟩, rfl⟩
  clear hle h0 h1
  rintro f A ⟨rfl, hle⟩
  simp only [n_gimletref26_twice_r7, hle, go_sem, ↓reduceIte, eq_self]
end Go.NL

set_option linter.unusedVariables false

set_option maxRecDepth 10000
namespace Go.NL
open Go.Proofs
theorem OutI.lower {A0 B A : Heap} {v : AV} {l : List Int} (h : OutI B A v l) (hle : A0.le B) : OutI A0 A v l := by
  rcases h with h | ⟨b', h, h', h0, h1⟩
  · exact .inl h
  · exact .inr ⟨b', h, h', hle.none h0, h1⟩
/-- What stands behind a call that leaves all blocks as they were. -/
theorem OutI.step {A0 A A' : Heap} {v : AV} {l : List Int} (h : OutI A0 A v l) (hle : A.le A') : OutI A0 A' v l := by
  rcases h with h | ⟨b', h, h', h0, h1⟩
  · exact .inl h
  · exact .inr ⟨b', h, hle.get _ _ h', h0, h1⟩
def bindsG (x : Int) (m : Nat) : List Int := (List.range m).map fun (i : Nat) => IntKind.i64.wrap (x + (i : Int))
def Core.binds26 : Core → List Int
  | .mk k x n s na a nt t nl l => if k = 2 ∨ k = 11 then [x] else if k = 14 then bindsG x t.length else []
theorem bindsG_succ (x : Int) (m : Nat) : bindsG x (m + 1) = bindsG x m ++ [IntKind.i64.wrap (x + (m : Int))] := by simp [bindsG, List.range_succ]
theorem bindsG_len (x : Int) (m : Nat) : (bindsG x m).length = m := by simp [bindsG]
set_option maxHeartbeats 1000000 in
theorem binds26_body (c : Core) (ht : c.tags.length ≤ big) {A0 : Heap} {Q : Post} (hQ : ∀ f A, A0.le A → OutI A0 A (f 2) c.binds26 → Q .ret f A) : nwp Try.prog n_gimletref26_binds.body Q (fr0 [c.enc]) A0 := by
  have hbig : big = 1099511627776 := rfl
  have hone := c.one_enc
  obtain ⟨k, x, n, s, na, a, nt, t, nl, l⟩ := c
  simp only [Core.tags] at ht
  have hC : (Core.mk k x n s na a nt t nl l).enc.cells = [.int .i64 k, .int .i64 x, .int .i64 n, .str s, encSl na 3 (a.map Atom.enc), encSl nt 1 (t.map encInt), encSl nl 7 (l.map Core.enc)] := by simp only [Core.enc, encsL, AV.cells]
  rw [hC] at hone
  generalize hO : (Core.mk k x n s na a nt t nl l).binds26 = O at hQ
  rw [Core.binds26] at hO
  generalize (Core.mk k x n s na a nt t nl l).enc = ce at hC ⊢
  simp only [n_gimletref26_binds]
  refine nwp_then (fun f A => ∃ b, A0.le A ∧ f 1 = .ptr b 0 ∧ A b = some (.cells [.int .i64 k, .int .i64 x, .int .i64 n, .str s, encSl na 3 (a.map Atom.enc), encSl nt 1 (t.map encInt), encSl nl 7 (l.map Core.enc)])) ?_ ?_
  · simp only [n_gimletref26_binds_r0, hC, hone, go_sem, eq_self]
    intro b hb
    exact Here.mk ⟨b, (Heap.le.refl _).set hb, rfl, Heap.set_same _ _ _⟩
  rintro f A1 ⟨b, hle01, h1, hb1⟩
  refine nwp_then (fun f A => A1.le A ∧ f 1 = .ptr b 0 ∧ f 3 = .nilslice) ?_ ?_
  · simp only [n_gimletref26_binds_r1, go_sem]
    exact Here.mk ⟨.refl _, h1, rfl⟩
  clear h1
  rintro f A ⟨hle, h1, h3⟩
  refine nwp_cut (fun f A => A1.le A ∧ OutI A1 A (f 3) O) ?_ ?_
  · refine nwp_then (fun f A => A1.le A ∧ f 1 = .ptr b 0 ∧ f 3 = .nilslice ∧ f 6 = .int .i64 k) ?_ ?_
    · have hb := hle.get _ _ hb1
      simp only [n_gimletref26_binds_r2, h1, hb, go_sem, ↓reduceIte, eq_self]
      exact Here.mk ⟨hle, h1, h3, rfl⟩
    clear hle h1 h3
    rintro f A ⟨hle, h1, h3, h6⟩
    refine nwp_block ?_
    refine nwp_cut (fun f A => (A1.le A ∧ f 1 = .ptr b 0 ∧ f 3 = .nilslice ∧ f 6 = .int .i64 k) ∧ f 7 = .bool (decide (k = 2 ∨ k = 11))) ?_ ?_
    · refine nwp_or (decide (k = 2)) (fun f A => A1.le A ∧ f 1 = .ptr b 0 ∧ f 3 = .nilslice ∧ f 6 = .int .i64 k) ?_ (fun hc f A h ht => ⟨h, by rw [ht]; simp [of_decide_eq_true hc]⟩) fun hc f A h => ?_
      · simp only [n_gimletref26_binds_r3, h6, go_sem, ↓reduceIte, eq_self]
        exact Here.mk ⟨⟨hle, h1, h3, h6⟩, rfl⟩
      · clear hle h1 h3 h6
        obtain ⟨hle, h1, h3, h6⟩ := h
        refine nwp_last (fun f A => (A1.le A ∧ f 1 = .ptr b 0 ∧ f 3 = .nilslice ∧ f 6 = .int .i64 k) ∧ f 7 = .bool (decide (k = 11))) ?_ fun f A h => ⟨h.1, by rw [h.2]; simp [of_decide_eq_false hc]⟩
        simp only [n_gimletref26_binds_r4, h6, go_sem, ↓reduceIte, eq_self]
        exact Here.mk ⟨⟨hle, h1, h3, h6⟩, rfl⟩
    clear hle h1 h3 h6
    rintro f A ⟨⟨hle, h1, h3, h6⟩, ht'⟩
    refine nwp_test _ ht' (fun hc => ?_) fun hc => ?_
    · rw [if_pos (of_decide_eq_true hc)] at hO
      subst hO
      refine nwp_last (fun f A => A1.le A ∧ OutI A1 A (f 3) [x]) ?_ fun f A h => h
      have hb := hle.get _ _ hb1
      simp only [n_gimletref26_binds_r5, h1, h3, hb, go_sem, Nat.reduceEqDiff, Nat.reduceLeDiff, ↓reduceIte, eq_self]
      intro b2 hb2
      refine append_ints (m := [x]) (l := []) (.nil A1 _) (hle.set hb2) (src_one _ _ _) (by simp [big_eq]) fun v' A' ho hle' _ => ?_
      try simp only [go_sem, Nat.reduceEqDiff, Nat.reduceAdd, Nat.reduceSub, Nat.reduceLeDiff, Nat.reduceLT, Nat.reduceMul, Int.reduceEq, Int.reduceLT, Int.reduceLE, Int.reduceNeg, Int.reduceToNat, Int.reduceAdd, Int.reduceSub, Int.cast_ofNat_Int, Int.cast_ofNat_Int, reduceCtorEq, ↓reduceIte, Bool.false_eq_true, decide_true, decide_false, eq_self, Bool.not_true, Bool.not_false]
      exact Here.mk ⟨hle', ho⟩
    rw [if_neg (of_decide_eq_false hc)] at hO
    refine nwp_then (fun f A => (A1.le A ∧ f 1 = .ptr b 0 ∧ f 3 = .nilslice) ∧ f 15 = .bool (decide (k = 14))) ?_ ?_
    · simp only [n_gimletref26_binds_r6, h6, go_sem, ↓reduceIte, eq_self]
      exact Here.mk ⟨⟨hle, h1, h3⟩, rfl⟩
    clear hle h1 h3 h6 ht' hc
    rintro f A ⟨⟨hle, h1, h3⟩, ht'⟩
    refine nwp_test _ ht' (fun hc => ?_) fun hc => ?_
    · rw [if_pos (of_decide_eq_true hc)] at hO
      subst hO
      refine nwp_then (fun f A => A1.le A ∧ f 1 = .ptr b 0 ∧ f 3 = .nilslice ∧ f 4 = .int .i64 0) ?_ ?_
      · simp only [n_gimletref26_binds_r7, go_sem]
        exact Here.mk ⟨hle, h1, h3, rfl⟩
      clear hle h1 h3
      rintro f A ⟨hle, h1, h3, h4⟩
      refine nwp_while (t := 21) (id := 1) (id2 := 2) t.length (fun i f A => i ≤ t.length ∧ A1.le A ∧ f 1 = .ptr b 0 ∧ OutI A1 A (f 3) (bindsG x i) ∧ f 4 = .int .i64 i)
        (fun i f A => A1.le A ∧ f 1 = .ptr b 0 ∧ OutI A1 A (f 3) (bindsG x i) ∧ f 4 = .int .i64 i)
        (fun i f A => A1.le A ∧ f 1 = .ptr b 0 ∧ OutI A1 A (f 3) (bindsG x (i + 1)) ∧ f 4 = .int .i64 i) ⟨Nat.zero_le _, hle, h1, by rw [h3]; exact .nil _ _, h4⟩ ?_ ?_ ?_
      · rintro i f A ⟨hi, hle, h1, ho, h4⟩
        have hb := hle.get _ _ hb1
        simp only [n_gimletref26_binds_r8, h1, h4, hb, lenAV_encSl, List.length_map, lt_dec, go_sem, Nat.reduceEqDiff, ↓reduceIte, eq_self]
        refine Here.mk ⟨_, rfl, fun hb => ⟨of_decide_eq_true hb, hle, h1, ho, h4⟩, fun hb => ⟨hle, ?_⟩⟩
        have := of_decide_eq_false hb
        rw [show i = t.length by omega] at ho
        exact ho
      · rintro i f A hi ⟨hle, h1, ho, h4⟩
        have hb := hle.get _ _ hb1
        refine nwp_last (fun f A => A1.le A ∧ f 1 = .ptr b 0 ∧ OutI A1 A (f 3) (bindsG x (i + 1)) ∧ f 4 = .int .i64 i) ?_ fun f A h => h
        generalize hv : f 3 = v at ho
        simp only [n_gimletref26_binds_r9, h1, h4, hv, hb, go_sem, Nat.reduceEqDiff, Nat.reduceLeDiff, ↓reduceIte, eq_self]
        intro b2 hb2
        refine append_ints (m := [IntKind.i64.wrap (x + (i : Int))]) (ho.fresh hb2) (hle.set hb2) (src_one _ _ _) (by rw [bindsG_len]; simp; omega) fun v' A' ho' hle' _ => ?_
        try simp only [go_sem, Nat.reduceEqDiff, Nat.reduceAdd, Nat.reduceSub, Nat.reduceLeDiff, Nat.reduceLT, Nat.reduceMul, Int.reduceEq, Int.reduceLT, Int.reduceLE, Int.reduceNeg, Int.reduceToNat, Int.reduceAdd, Int.reduceSub, Int.cast_ofNat_Int, Int.cast_ofNat_Int, reduceCtorEq, ↓reduceIte, Bool.false_eq_true, decide_true, decide_false, eq_self, Bool.not_true, Bool.not_false]
        refine Here.mk ⟨hle', h1, ?_, h4⟩
        rw [bindsG_succ]
        exact ho'
      · rintro i f A hi ⟨hle, h1, ho, h4⟩
        have hw := wrap_succ hi (by omega)
        simp only [n_gimletref26_binds_r10, h4, hw, go_sem, ↓reduceIte, eq_self]
        exact Here.mk ⟨hi, hle, h1, ho, rfl⟩
    · rw [if_neg (of_decide_eq_false hc)] at hO
      subst hO
      refine ⟨hle, ?_⟩
      rw [h3]
      exact .nil _ _
  clear hle h1 h3
  rintro f A ⟨hle, ho⟩
  refine nwp_then (fun f A => A1.le A ∧ OutI A1 A (f 2) O) ?_ fun f A ⟨h1, h2⟩ => hQ f A (hle01.trans h1) (h2.lower hle01)
  simp only [n_gimletref26_binds_r12, go_sem, ↓reduceIte, eq_self]
  exact Here.mk ⟨hle, ho⟩
theorem binds26_run (c : Core) (ht : c.tags.length ≤ big) {A0 : Heap} {K : AV → Heap → Prop} (hK : OutK A0 c.binds26 K) : NCalls Try.prog F_gimletref26_binds [c.enc] A0 K :=
  NCalls.walk c_gimletref26_binds (Nat.le_of_ble_eq_true rfl) (binds26_body c ht fun f A hle ho => by
    simp only [n_gimletref26_binds, go_sem]
    exact hK _ _ hle ho)
theorem binds26_spec (c : Core) (ht : c.tags.length ≤ big) : NPure Try.prog F_gimletref26_binds [c.enc] (encSl true 1 (c.binds26.map encInt)) :=
  NPure.of_body c_gimletref26_binds (Nat.le_of_ble_eq_true rfl) fun A0 => binds26_body c ht fun f A hle ho => ret_out rfl ho hle
mutual
/-- The variables that are bound in a part. -/
def Core.all26 : Core → List Int
  | .mk k x n s na a nt t nl l => (Core.mk k x n s na a nt t nl l).binds26 ++ Core.alls26 l
def Core.alls26 : List Core → List Int
  | [] => []
  | c :: cs => c.all26 ++ Core.alls26 cs
end
theorem alls26_app : ∀ a b : List Core, Core.alls26 (a ++ b) = Core.alls26 a ++ Core.alls26 b
  | [], b => by simp [Core.alls26]
  | x :: a, b => by simp [Core.alls26, alls26_app a b]
theorem alls26_take (l : List Core) (i : Nat) (h : i < l.length) : Core.alls26 (l.take (i + 1)) = Core.alls26 (l.take i) ++ l[i].all26 := by
  rw [List.take_add_one, List.getElem?_eq_getElem h, alls26_app]
  simp [Core.alls26]
theorem alls26_le (l : List Core) (i : Nat) : (Core.alls26 (l.take i)).length ≤ (Core.alls26 l).length := by
  conv => rhs; rw [← List.take_append_drop i l, alls26_app]
  simp
theorem alls26_mem {l : List Core} {c : Core} (h : c ∈ l) : c.all26.length ≤ (Core.alls26 l).length := by
  induction l with
  | nil => cases h
  | cons x l ih =>
    simp only [Core.alls26, List.length_append]
    rcases List.mem_cons.1 h with rfl | h
    · omega
    · have := ih h; omega
set_option maxHeartbeats 1000000 in
theorem all26_body : ∀ (N : Nat) (c : Core), c.size ≤ N → c.small big = true → c.all26.length ≤ big → ∀ {A0 : Heap} {Q : Post} (hQ : ∀ f A, A0.le A → OutI A0 A (f 2) c.all26 → Q .ret f A), nwp Try.prog n_gimletref26_all.body Q (fr0 [c.enc]) A0 := by
  have hbig : big = 1099511627776 := rfl
  intro N
  induction N with
  | zero => intro c hc; cases c; simp [Core.size] at hc
  | succ N ih =>
    intro c hc hsm hlen A0 Q hQ
    have hone := c.one_enc
    have hte := c.take_enc
    have hbd : ∀ {A0 : Heap} {K : AV → Heap → Prop}, c.tags.length ≤ big → OutK A0 c.binds26 K → NCalls Try.prog F_gimletref26_binds [c.enc] A0 K := fun h hk => binds26_run c h hk
    obtain ⟨k, x, n, s, na, a, nt, t, nl, l⟩ := c
    have hl : Core.sizes l ≤ N := by simp only [Core.size] at hc; omega
    simp only [Core.small, Bool.and_eq_true, decide_eq_true_eq] at hsm
    obtain ⟨⟨⟨sa, st⟩, sl⟩, sls⟩ := hsm
    have hC : (Core.mk k x n s na a nt t nl l).enc.cells = [.int .i64 k, .int .i64 x, .int .i64 n, .str s, encSl na 3 (a.map Atom.enc), encSl nt 1 (t.map encInt), encSl nl 7 (l.map Core.enc)] := by simp only [Core.enc, encsL, AV.cells]
    rw [hC] at hone hte
    rw [Core.all26] at hlen hQ
    have hlen2 : ((Core.mk k x n s na a nt t nl l).binds26).length + (Core.alls26 l).length ≤ big := by simpa using hlen
    simp only [Core.tags] at hbd
    generalize (Core.mk k x n s na a nt t nl l).binds26 = B at hbd hlen hlen2 hQ
    generalize (Core.mk k x n s na a nt t nl l).enc = ce at hC hte hbd ⊢
    have hsub : ∀ y ∈ l, ∀ {A0 : Heap} {K : AV → Heap → Prop}, OutK A0 y.all26 K → NCalls Try.prog F_gimletref26_all [y.enc] A0 K := fun y hy A0 K hK =>
      NCalls.walk c_gimletref26_all (Nat.le_of_ble_eq_true rfl) (ih y (Nat.le_trans (Core.size_mem hy) hl) (Core.smalls_mem sls y hy) (by have := alls26_mem hy; omega) fun f A hle ho => by
        simp only [n_gimletref26_all, go_sem]
        exact hK _ _ hle ho)
    clear ih
    simp only [n_gimletref26_all]
    refine nwp_then (fun f A => ∃ b, A0.le A ∧ f 1 = .ptr b 0 ∧ A b = some (.cells [.int .i64 k, .int .i64 x, .int .i64 n, .str s, encSl na 3 (a.map Atom.enc), encSl nt 1 (t.map encInt), encSl nl 7 (l.map Core.enc)])) ?_ ?_
    · simp only [n_gimletref26_all_r0, hC, hone, go_sem, eq_self]
      intro b hb
      exact Here.mk ⟨b, (Heap.le.refl _).set hb, rfl, Heap.set_same _ _ _⟩
    rintro f A1 ⟨b, hle01, h1, hb1⟩
    refine nwp_then (fun f A => A1.le A ∧ f 1 = .ptr b 0 ∧ OutI A1 A (f 3) B) ?_ ?_
    · simp only [n_gimletref26_all_r1, h1, hb1, hte, go_sem, ↓reduceIte, eq_self]
      refine hbd st fun v A' hle ho => ?_
      try simp only [go_sem, Nat.reduceEqDiff, Nat.reduceAdd, Nat.reduceSub, Nat.reduceLeDiff, Nat.reduceLT, Nat.reduceMul, Int.reduceEq, Int.reduceLT, Int.reduceLE, Int.reduceNeg, Int.reduceToNat, Int.reduceAdd, Int.reduceSub, Int.cast_ofNat_Int, Int.cast_ofNat_Int, reduceCtorEq, ↓reduceIte, Bool.false_eq_true, decide_true, decide_false, eq_self, Bool.not_true, Bool.not_false]
      exact Here.mk ⟨hle, h1, ho⟩
    clear h1
    rintro f A ⟨hle, h1, ho⟩
    refine nwp_cut (fun f A => A1.le A ∧ OutI A1 A (f 3) (B ++ Core.alls26 l)) ?_ ?_
    · refine nwp_then (fun f A => A1.le A ∧ f 1 = .ptr b 0 ∧ OutI A1 A (f 3) B ∧ f 4 = .int .i64 0) ?_ ?_
      · simp only [n_gimletref26_all_r2, go_sem]
        exact Here.mk ⟨hle, h1, ho, rfl⟩
      clear hle h1 ho
      rintro f A ⟨hle, h1, ho, h4⟩
      refine nwp_while (t := 11) (id := 0) (id2 := 1) l.length (fun i f A => i ≤ l.length ∧ A1.le A ∧ f 1 = .ptr b 0 ∧ OutI A1 A (f 3) (B ++ Core.alls26 (l.take i)) ∧ f 4 = .int .i64 i)
        (fun i f A => A1.le A ∧ f 1 = .ptr b 0 ∧ OutI A1 A (f 3) (B ++ Core.alls26 (l.take i)) ∧ f 4 = .int .i64 i)
        (fun i f A => A1.le A ∧ f 1 = .ptr b 0 ∧ OutI A1 A (f 3) (B ++ Core.alls26 (l.take (i + 1))) ∧ f 4 = .int .i64 i) ⟨Nat.zero_le _, hle, h1, by simpa [Core.alls26] using ho, h4⟩ ?_ ?_ ?_
      · rintro i f A ⟨hi, hle, h1, ho, h4⟩
        have hb := hle.get _ _ hb1
        simp only [n_gimletref26_all_r3, h1, h4, hb, lenAV_encSl, List.length_map, lt_dec, go_sem, Nat.reduceEqDiff, ↓reduceIte, eq_self]
        refine Here.mk ⟨_, rfl, fun hb => ⟨of_decide_eq_true hb, hle, h1, ho, h4⟩, fun hb => ⟨hle, ?_⟩⟩
        have := of_decide_eq_false hb
        rw [List.take_of_length_le (by omega)] at ho
        exact ho
      · rintro i f A hi ⟨hle, h1, ho, h4⟩
        have hb := hle.get _ _ hb1
        have hix := indexAddr_encSl nl 7 (l.map Core.enc) i l[i].enc (by rw [List.getElem?_map, List.getElem?_eq_getElem hi]; rfl)
        have htey := l[i].take_enc
        have hsy := @hsub l[i] (List.getElem_mem hi)
        have hnx := alls26_take l i hi
        have hll := alls26_le l (i + 1)
        rw [hnx] at hll
        simp only [List.length_append] at hll
        refine nwp_last (fun f A => A1.le A ∧ f 1 = .ptr b 0 ∧ OutI A1 A (f 3) (B ++ Core.alls26 (l.take (i + 1))) ∧ f 4 = .int .i64 i) ?_ fun f A h => h
        rw [hnx, ← List.append_assoc]
        generalize l[i] = y at hix htey hsy hll ⊢
        generalize hv : f 3 = v at ho
        simp only [n_gimletref26_all_r4, h1, h4, hv, hb, hix, htey, go_sem, Nat.reduceEqDiff, ↓reduceIte, eq_self]
        refine hsy fun w A2 hle2 how => ?_
        have ho2 := ho.step hle2
        try simp only [go_sem]
        refine append_ints ho2 (hle.trans hle2) (src_out how) (by simp only [List.length_append]; omega) fun v' A' ho' hle' _ => ?_
        try simp only [go_sem, Nat.reduceEqDiff, Nat.reduceAdd, Nat.reduceSub, Nat.reduceLeDiff, Nat.reduceLT, Nat.reduceMul, Int.reduceEq, Int.reduceLT, Int.reduceLE, Int.reduceNeg, Int.reduceToNat, Int.reduceAdd, Int.reduceSub, Int.cast_ofNat_Int, Int.cast_ofNat_Int, reduceCtorEq, ↓reduceIte, Bool.false_eq_true, decide_true, decide_false, eq_self, Bool.not_true, Bool.not_false]
        exact Here.mk ⟨hle', h1, ho', h4⟩
      · rintro i f A hi ⟨hle, h1, ho, h4⟩
        have hw := wrap_succ hi (by omega)
        simp only [n_gimletref26_all_r5, h4, hw, go_sem, ↓reduceIte, eq_self]
        exact Here.mk ⟨hi, hle, h1, ho, rfl⟩
    clear hle h1 ho
    rintro f A ⟨hle, ho⟩
    refine nwp_then (fun f A => A1.le A ∧ OutI A1 A (f 2) (B ++ Core.alls26 l)) ?_ fun f A ⟨h1, h2⟩ => hQ f A (hle01.trans h1) (h2.lower hle01)
    simp only [n_gimletref26_all_r7, go_sem, ↓reduceIte, eq_self]
    exact Here.mk ⟨hle, ho⟩
theorem all26_spec (c : Core) (hsm : c.small big = true) (hlen : c.all26.length ≤ big) : NPure Try.prog F_gimletref26_all [c.enc] (encSl true 1 (c.all26.map encInt)) :=
  NPure.of_body c_gimletref26_all (Nat.le_of_ble_eq_true rfl) fun A0 => all26_body c.size c (Nat.le_refl _) hsm hlen fun f A hle ho => ret_out rfl ho hle
end Go.NL

set_option linter.unusedVariables false

set_option maxRecDepth 10000
namespace Go.NL
open Go.Proofs
theorem OutE.at {A0 A : Heap} {v : AV} {l : List Int} (h : OutE 1 A0 A v (l.map encInt)) : IntsAt A v l := by
  rcases h with (⟨h1, h2⟩ | ⟨b, h1, h2, h3, h4⟩) | ⟨h2, b, h1, h3, h4⟩
  · have : l = [] := by simpa using h2
    subst this
    exact .inl ⟨true, h1⟩
  · rw [flat_ints] at h2
    rw [List.length_map] at h1
    exact .inr ⟨b, _, h1, h2⟩
  · have : l = [] := by simpa using h2
    subst this
    exact .inr ⟨b, _, h1, h3⟩
theorem IntsAt.src {A0 A : Heap} {v : AV} {l : List Int} (h : IntsAt A0 v l) (hle : A0.le A) : srcAV A false 1 v = some ((l.map encInt).length, (l.map encInt).flatMap AV.cells) := by
  rw [List.length_map, flat_ints]
  rcases h with ⟨nl, rfl⟩ | ⟨b, c, rfl, hb⟩
  · exact src_encI A nl l
  · simp only [srcAV, hle.get _ _ hb, ints_len, and_self, if_true]
    rw [if_pos (by omega), ints_take_all]
theorem src_encI2 (A : Heap) (nl : Bool) (l : List Int) : srcAV A false 1 (encSl nl 1 (l.map encInt)) = some ((l.map encInt).length, (l.map encInt).flatMap AV.cells) := by
  rw [List.length_map, flat_ints]
  exact src_encI A nl l
theorem ints_one (l : List Int) : ∀ x ∈ l.map encInt, x.cells.length = 1 := by
  intro x hx
  obtain ⟨y, _, rfl⟩ := List.mem_map.1 hx
  rfl
theorem OutE.step {e : Nat} {A0 A A' : Heap} {v : AV} {es : List AV} (h : OutE e A0 A v es) (hle : A.le A') : OutE e A0 A' v es := by
  rcases h with (h | ⟨b, h1, h2, h3, h4⟩) | ⟨h2, b, h1, h3, h4⟩
  · exact .inl (.inl h)
  · exact .inl (.inr ⟨b, h1, hle.get _ _ h2, h3, h4⟩)
  · exact .inr ⟨h2, b, h1, hle.get _ _ h3, h4⟩
/-- Is an atom's variable bound, or not above the bound? -/
def usedA (bound : Int) (l : List Int) (a : Atom) : Bool := !(decide (a.kind = 1) && (decide (bound < a.n) && !decide (a.n ∈ l)))
mutual
/-- Does a part use but variables that are bound? -/
def Core.used26 : Core → Int → List Int → Bool
  | .mk k x n s na a nt t nl l, bound, m => a.all (usedA bound m) && Core.useds26 l bound m (m ++ (Core.mk k x n s na a nt t nl l).binds26) (decide (k = 14)) (lateK k) 0
def Core.useds26 : List Core → Int → List Int → List Int → Bool → Bool → Nat → Bool
  | [], _, _, _, _, _, _ => true
  | c :: cs, bound, m, m', g, late, i => c.used26 bound (if (g || (decide (i = 1) && late)) = true then m' else m) && Core.useds26 cs bound m m' g late (i + 1)
end
theorem useds26_app (bound : Int) (m m' : List Int) (g late : Bool) : ∀ (a b : List Core) (i : Nat), Core.useds26 (a ++ b) bound m m' g late i = (Core.useds26 a bound m m' g late i && Core.useds26 b bound m m' g late (i + a.length))
  | [], b, i => by simp [Core.useds26]
  | c :: a, b, i => by
    simp only [List.cons_append, Core.useds26, useds26_app bound m m' g late a b (i + 1), List.length_cons, Bool.and_assoc]
    rw [show i + 1 + a.length = i + (a.length + 1) by omega]
theorem useds26_take {bound : Int} {m m' : List Int} {g late : Bool} (l : List Core) (i : Nat) (h : i < l.length) : Core.useds26 (l.take (i + 1)) bound m m' g late 0 = (Core.useds26 (l.take i) bound m m' g late 0 && l[i].used26 bound (if (g || (decide (i = 1) && late)) = true then m' else m)) := by
  rw [List.take_add_one, List.getElem?_eq_getElem h, useds26_app]
  simp only [Option.toList, Core.useds26, Bool.and_true, Nat.zero_add, List.length_take, Nat.min_eq_left (Nat.le_of_lt h)]
theorem useds26_pre {bound : Int} {m m' : List Int} {g late : Bool} {l : List Core} {i : Nat} (h : Core.useds26 (l.take i) bound m m' g late 0 = false) : Core.useds26 l bound m m' g late 0 = false := by
  rw [← List.take_append_drop i l, useds26_app, h, Bool.false_and]
set_option maxHeartbeats 2000000 in
theorem used26_spec (bound : Int) : ∀ (N : Nat) (c : Core), c.size ≤ N → c.small big = true → ∀ {A0 : Heap} {v : AV} {m : List Int}, IntsAt A0 v m → m.length + c.all26.length ≤ big → NAt A0 Try.prog F_gimletref26_used [c.enc, .int .i64 bound, v] (.bool (c.used26 bound m)) := by
  have hbig : big = 1099511627776 := rfl
  intro N
  induction N with
  | zero => intro c hc; cases c; simp [Core.size] at hc
  | succ N ih =>
    intro c hc hsm A0 v m hv0 hlen
    refine NAt.walk c_gimletref26_used (Nat.le_of_ble_eq_true rfl) fun A1 hB => ?_
    have hv1 := hv0.le hB
    clear hv0 hB A0
    have hone := c.one_enc
    have hte := c.take_enc
    have hbd := binds26_spec c
    obtain ⟨k, x, n, s, na, a, nt, t, nl, l⟩ := c
    have hl : Core.sizes l ≤ N := by simp only [Core.size] at hc; omega
    simp only [Core.small, Bool.and_eq_true, decide_eq_true_eq] at hsm
    obtain ⟨⟨⟨sa, st⟩, sl⟩, sls⟩ := hsm
    simp only [Core.tags] at hbd
    have hbd := hbd st
    have hC : (Core.mk k x n s na a nt t nl l).enc.cells = [.int .i64 k, .int .i64 x, .int .i64 n, .str s, encSl na 3 (a.map Atom.enc), encSl nt 1 (t.map encInt), encSl nl 7 (l.map Core.enc)] := by simp only [Core.enc, encsL, AV.cells]
    rw [hC] at hone hte
    rw [Core.all26] at hlen
    have hlen2 : m.length + ((Core.mk k x n s na a nt t nl l).binds26.length + (Core.alls26 l).length) ≤ big := by simpa using hlen
    generalize hO : (Core.mk k x n s na a nt t nl l).used26 bound m = O
    rw [Core.used26] at hO
    generalize (Core.mk k x n s na a nt t nl l).binds26 = B at hbd hlen hlen2 hO
    generalize (Core.mk k x n s na a nt t nl l).enc = ce at hC hte hbd ⊢
    have hsub : ∀ y ∈ l, ∀ {A0 : Heap} {v : AV} {m' : List Int}, IntsAt A0 v m' → m'.length ≤ m.length + B.length → NAt A0 Try.prog F_gimletref26_used [y.enc, .int .i64 bound, v] (.bool (y.used26 bound m')) := fun y hy A0 v m' h1 h2 =>
      ih y (Nat.le_trans (Core.size_mem hy) hl) (Core.smalls_mem sls y hy) h1 (by have := alls26_mem hy; omega)
    clear ih
    simp only [n_gimletref26_used]
    refine nwp_then (fun f A => ∃ b, A1.le A ∧ f 1 = .int .i64 bound ∧ f 2 = v ∧ f 3 = .ptr b 0 ∧ A b = some (.cells [.int .i64 k, .int .i64 x, .int .i64 n, .str s, encSl na 3 (a.map Atom.enc), encSl nt 1 (t.map encInt), encSl nl 7 (l.map Core.enc)])) ?_ ?_
    · simp only [n_gimletref26_used_r0, hC, hone, go_sem, eq_self]
      intro b hb
      exact Here.mk ⟨b, (Heap.le.refl _).set hb, rfl, rfl, rfl, Heap.set_same _ _ _⟩
    rintro f A2 ⟨b, hle12, h1, h2, h3, hb2⟩
    have hv := hv1.le hle12
    clear hv1 hC hone
    have ham := fun y => among_spec hv (by omega) y
    -- the atoms
    refine nwp_cut (fun f A => a.all (usedA bound m) = true ∧ A2.le A ∧ f 1 = .int .i64 bound ∧ f 2 = v ∧ f 3 = .ptr b 0) ?_ ?_
    · refine nwp_then (fun f A => (A2.le A ∧ f 1 = .int .i64 bound ∧ f 2 = v ∧ f 3 = .ptr b 0) ∧ f 7 = .int .i64 0) ?_ ?_
      · simp only [n_gimletref26_used_r1, go_sem]
        exact Here.mk ⟨⟨.refl _, h1, h2, h3⟩, rfl⟩
      clear h1 h2 h3
      rintro f A ⟨⟨hle, h1, h2, h3⟩, h7⟩
      refine nwp_while (t := 14) (id := 0) (id2 := 1) a.length (fun i f A => i ≤ a.length ∧ (a.take i).all (usedA bound m) = true ∧ (A2.le A ∧ f 1 = .int .i64 bound ∧ f 2 = v ∧ f 3 = .ptr b 0) ∧ f 7 = .int .i64 i)
        (fun i f A => (a.take i).all (usedA bound m) = true ∧ (A2.le A ∧ f 1 = .int .i64 bound ∧ f 2 = v ∧ f 3 = .ptr b 0) ∧ f 7 = .int .i64 i)
        (fun i f A => (a.take (i + 1)).all (usedA bound m) = true ∧ (A2.le A ∧ f 1 = .int .i64 bound ∧ f 2 = v ∧ f 3 = .ptr b 0) ∧ f 7 = .int .i64 i) ⟨Nat.zero_le _, rfl, ⟨hle, h1, h2, h3⟩, h7⟩ ?_ ?_ ?_
      · rintro i f A ⟨hi, ha, ⟨hle, h1, h2, h3⟩, h7⟩
        have hb := hle.get _ _ hb2
        simp only [n_gimletref26_used_r2, h3, h7, hb, lenAV_encSl, List.length_map, lt_dec, go_sem, Nat.reduceEqDiff, ↓reduceIte, eq_self]
        refine Here.mk ⟨_, rfl, fun hb => ⟨of_decide_eq_true hb, ha, ⟨hle, h1, h2, h3⟩, h7⟩, fun hb => ⟨?_, hle, h1, h2, h3⟩⟩
        have := of_decide_eq_false hb
        rwa [List.take_of_length_le (by omega)] at ha
      · rintro i f A hi ⟨ha, ⟨hle, h1, h2, h3⟩, h7⟩
        have hb := hle.get _ _ hb2
        have hix := indexAddr_encSl na 3 (a.map Atom.enc) i a[i].enc (by rw [List.getElem?_map, List.getElem?_eq_getElem hi]; rfl)
        rw [all_take_succ _ _ _ hi, ha, Bool.true_and]
        have hbad : usedA bound m a[i] = false → O = false := fun h => by
          have : a.all (usedA bound m) = false := List.all_eq_false.2 ⟨a[i], List.getElem_mem hi, by simp [h]⟩
          rw [← hO, this]
          rfl
        generalize a[i] = z at hix hbad ⊢
        obtain ⟨zk, zn, zs⟩ := z
        simp only [Atom.enc_cells] at hix
        have hmz := ham zn
        refine nwp_then (fun f A => ((A2.le A ∧ f 1 = .int .i64 bound ∧ f 2 = v ∧ f 3 = .ptr b 0) ∧ f 7 = .int .i64 i) ∧ f 44 = .bool (!usedA bound m ⟨zk, zn, zs⟩)) ?_ ?_
        · by_cases hk : zk = 1
          · have d1 : decide (zk = 1) = true := by simpa using hk
            by_cases hn : bound < zn
            · have d2 : decide (bound < zn) = true := by simpa using hn
              simp only [n_gimletref26_used_r3, h1, h2, h3, h7, hb, hix, d1, d2, go_sem, Nat.reduceEqDiff, ↓reduceIte, eq_self]
              refine hmz.call hle ?_
              try simp only [go_sem, Nat.reduceEqDiff, ↓reduceIte, eq_self]
              refine Here.mk ⟨⟨⟨hle, h1, h2, h3⟩, h7⟩, ?_⟩
              show AV.bool _ = AV.bool _
              simp [usedA, hk, hn]
            · have d2 : decide (bound < zn) = false := by simpa using hn
              simp only [n_gimletref26_used_r3, h1, h3, h7, hb, hix, d1, d2, go_sem, Nat.reduceEqDiff, ↓reduceIte, Bool.false_eq_true, eq_self]
              refine Here.mk ⟨⟨⟨hle, h1, h2, h3⟩, h7⟩, ?_⟩
              show AV.bool _ = AV.bool _
              simp [usedA, hk, hn]
          · have d1 : decide (zk = 1) = false := by simpa using hk
            simp only [n_gimletref26_used_r3, h3, h7, hb, hix, d1, go_sem, Nat.reduceEqDiff, ↓reduceIte, Bool.false_eq_true, eq_self]
            refine Here.mk ⟨⟨⟨hle, h1, h2, h3⟩, h7⟩, ?_⟩
            show AV.bool _ = AV.bool _
            simp [usedA, hk]
        clear hle h1 h2 h3 h7 hb
        rintro f A ⟨⟨⟨hle, h1, h2, h3⟩, h7⟩, ht⟩
        refine nwp_test _ ht (fun hc => ?_) fun hc => ?_
        · have := hbad (by simpa using hc)
          subst this
          simp only [n_gimletref26_used_r4, hle12.trans hle, go_sem, ↓reduceIte, eq_self]
        · exact ⟨by simpa using hc, ⟨hle, h1, h2, h3⟩, h7⟩
      · rintro i f A hi ⟨ha, ⟨hle, h1, h2, h3⟩, h7⟩
        have hw := wrap_succ hi (by omega)
        simp only [n_gimletref26_used_r5, h7, hw, go_sem, ↓reduceIte, eq_self]
        exact Here.mk ⟨hi, ha, ⟨hle, h1, h2, h3⟩, rfl⟩
    clear h1 h2 h3
    rintro f A ⟨hall, hle, h1, h2, h3⟩
    rw [hall, Bool.true_and] at hO
    -- the parts
    refine nwp_cut (fun f A => O = true ∧ A2.le A) ?_ ?_
    · refine nwp_then (fun f A => (A2.le A ∧ f 1 = .int .i64 bound ∧ f 2 = v ∧ f 3 = .ptr b 0) ∧ f 8 = .int .i64 0) ?_ ?_
      · simp only [n_gimletref26_used_r7, go_sem]
        exact Here.mk ⟨⟨hle, h1, h2, h3⟩, rfl⟩
      clear hle h1 h2 h3
      rintro f A ⟨⟨hle, h1, h2, h3⟩, h8⟩
      refine nwp_while (t := 49) (id := 2) (id2 := 3) l.length (fun i f A => i ≤ l.length ∧ Core.useds26 (l.take i) bound m (m ++ B) (decide (k = 14)) (lateK k) 0 = true ∧ (A2.le A ∧ f 1 = .int .i64 bound ∧ f 2 = v ∧ f 3 = .ptr b 0) ∧ f 8 = .int .i64 i)
        (fun i f A => Core.useds26 (l.take i) bound m (m ++ B) (decide (k = 14)) (lateK k) 0 = true ∧ (A2.le A ∧ f 1 = .int .i64 bound ∧ f 2 = v ∧ f 3 = .ptr b 0) ∧ f 8 = .int .i64 i)
        (fun i f A => Core.useds26 (l.take (i + 1)) bound m (m ++ B) (decide (k = 14)) (lateK k) 0 = true ∧ (A2.le A ∧ f 1 = .int .i64 bound ∧ f 2 = v ∧ f 3 = .ptr b 0) ∧ f 8 = .int .i64 i) ⟨Nat.zero_le _, by simp [Core.useds26], ⟨hle, h1, h2, h3⟩, h8⟩ ?_ ?_ ?_
      · rintro i f A ⟨hi, ha, ⟨hle, h1, h2, h3⟩, h8⟩
        have hb := hle.get _ _ hb2
        simp only [n_gimletref26_used_r8, h3, h8, hb, lenAV_encSl, List.length_map, lt_dec, go_sem, Nat.reduceEqDiff, ↓reduceIte, eq_self]
        refine Here.mk ⟨_, rfl, fun hb => ⟨of_decide_eq_true hb, ha, ⟨hle, h1, h2, h3⟩, h8⟩, fun hb => ⟨?_, hle⟩⟩
        have := of_decide_eq_false hb
        rw [List.take_of_length_le (by omega), hO] at ha
        exact ha
      · rintro i f A hi ⟨ha, ⟨hle, h1, h2, h3⟩, h8⟩
        have hb := hle.get _ _ hb2
        have hix := indexAddr_encSl nl 7 (l.map Core.enc) i l[i].enc (by rw [List.getElem?_map, List.getElem?_eq_getElem hi]; rfl)
        have htey := l[i].take_enc
        have hsy := @hsub l[i] (List.getElem_mem hi)
        have hnx := useds26_take (bound := bound) (m := m) (m' := m ++ B) (g := decide (k = 14)) (late := lateK k) l i hi
        rw [ha, Bool.true_and] at hnx
        have hbad : Core.useds26 (l.take (i + 1)) bound m (m ++ B) (decide (k = 14)) (lateK k) 0 = false → O = false := fun h => by rw [← hO]; exact useds26_pre h
        rw [hnx] at hbad ⊢
        generalize l[i] = y at hix htey hsy hbad ⊢
        generalize hW : (decide (k = 14) || (decide (i = 1) && lateK k)) = W at hbad ⊢
        refine nwp_then (fun f A => A2.le A ∧ f 1 = .int .i64 bound ∧ f 2 = v ∧ f 3 = .ptr b 0 ∧ f 8 = .int .i64 i ∧ f 9 = v) ?_ ?_
        · simp only [n_gimletref26_used_r9, h2, go_sem, ↓reduceIte, eq_self]
          exact Here.mk ⟨hle, h1, h2, h3, h8, rfl⟩
        clear hle h1 h2 h3 h8 hb
        rintro f A ⟨hle, h1, h2, h3, h8, h9⟩
        refine nwp_cut (fun f A => ∃ v', A2.le A ∧ f 1 = .int .i64 bound ∧ f 2 = v ∧ f 3 = .ptr b 0 ∧ f 8 = .int .i64 i ∧ f 9 = v' ∧ IntsAt A v' (if W = true then m ++ B else m)) ?_ ?_
        · refine nwp_then (fun f A => (A2.le A ∧ f 1 = .int .i64 bound ∧ f 2 = v ∧ f 3 = .ptr b 0 ∧ f 8 = .int .i64 i ∧ f 9 = v) ∧ f 69 = .bool W) ?_ ?_
          · have hb := hle.get _ _ hb2
            have hi1 : decide ((i : Int) = 1) = decide (i = 1) := by by_cases h : i = 1 <;> simp [h] <;> omega
            clear hbad hnx ham hsub hsy hbd ha hO hlen hlen2 hall htey hix hte
            simp only [lateK] at hW
            simp only [n_gimletref26_used_r10, h3, hb, go_sem, ↓reduceIte, eq_self]
            repeat' (first | (refine ifBool_cases (fun hg => ?_) fun hg => ?_) | (simp only [*, go_sem, Nat.reduceEqDiff, ↓reduceIte, Bool.false_eq_true, eq_self]))
            all_goals
              refine Here.mk ⟨⟨hle, h1, h2, h3, h8, h9⟩, ?_⟩
              show AV.bool _ = AV.bool _
              rw [← hW]
              (try simp_all)
          clear hle h1 h2 h3 h8 h9
          rintro f A ⟨⟨hle, h1, h2, h3, h8, h9⟩, ht⟩
          refine nwp_test _ ht (fun hc => ?_) fun hc => ?_
          · subst hc
            refine nwp_last (fun f A => ∃ v', A2.le A ∧ f 1 = .int .i64 bound ∧ f 2 = v ∧ f 3 = .ptr b 0 ∧ f 8 = .int .i64 i ∧ f 9 = v' ∧ IntsAt A v' (m ++ B)) ?_ fun f A h => h
            have hb := hle.get _ _ hb2
            simp only [n_gimletref26_used_r11, h2, h3, hb, hte, go_sem, Nat.reduceEqDiff, ↓reduceIte, eq_self]
            intro b' hb'
            have hne : b ≠ b' := fun e => by subst e; rw [hb] at hb'; cases hb'
            simp only [hne, hte, go_sem, ↓reduceIte, eq_self]
            have hle' : A2.le (A.set b' (.cells [])) := hle.set hb'
            refine append_E (es := []) (ms := m.map encInt) (A0 := A2) (.inr ⟨rfl, b', rfl, Heap.set_same _ _ _, hle.none hb'⟩) hle' (hv.src hle') (fun x hx => by cases hx) (by simp; omega) (by omega) fun v' A' ho' hle2 _ => ?_
            have hb3 := hle2.get _ _ hb2
            simp only [hb3, hte, go_sem, eq_self]
            refine hbd.call ?_
            try simp only [go_sem]
            refine append_E ho' hle2 (src_encI2 _ _ _) (ints_one m) (by simp; omega) (by omega) fun v'' A'' ho'' hle3 _ => ?_
            try simp only [go_sem, Nat.reduceEqDiff, Nat.reduceAdd, Nat.reduceSub, Nat.reduceLeDiff, Nat.reduceLT, Nat.reduceMul, Int.reduceEq, Int.reduceLT, Int.reduceLE, Int.reduceNeg, Int.reduceToNat, Int.reduceAdd, Int.reduceSub, Int.cast_ofNat_Int, Int.cast_ofNat_Int, reduceCtorEq, ↓reduceIte, Bool.false_eq_true, decide_true, decide_false, eq_self, Bool.not_true, Bool.not_false]
            refine Here.mk ⟨v'', hle3, h1, h2, h3, h8, rfl, ?_⟩
            rw [List.nil_append, ← List.map_append] at ho''
            exact ho''.at
          · subst hc
            exact ⟨v, hle, h1, h2, h3, h8, h9, hv.le hle⟩
        clear hle h1 h2 h3 h8 h9
        rintro f A ⟨v', hle, h1, h2, h3, h8, h9, hv'⟩
        have hsy := hsy hv' (by split <;> simp)
        generalize y.used26 bound (if W = true then m ++ B else m) = U at hsy hbad ⊢
        refine nwp_then (fun f A => (A2.le A ∧ f 1 = .int .i64 bound ∧ f 2 = v ∧ f 3 = .ptr b 0 ∧ f 8 = .int .i64 i) ∧ f 84 = .bool (!U)) ?_ ?_
        · have hb := hle.get _ _ hb2
          simp only [n_gimletref26_used_r12, h1, h3, h8, h9, hb, hix, htey, go_sem, Nat.reduceEqDiff, ↓reduceIte, eq_self]
          refine hsy.call (Heap.le.refl _) ?_
          try simp only [go_sem]
          exact Here.mk ⟨⟨hle, h1, h2, h3, h8⟩, rfl⟩
        clear hle h1 h2 h3 h8 h9 hv' hsy
        rintro f A ⟨⟨hle, h1, h2, h3, h8⟩, ht⟩
        refine nwp_test _ ht (fun hc => ?_) fun hc => ?_
        · have := hbad (by simpa using hc)
          subst this
          simp only [n_gimletref26_used_r13, hle12.trans hle, go_sem, ↓reduceIte, Bool.false_eq_true, eq_self]
        · exact ⟨by simpa using hc, ⟨hle, h1, h2, h3⟩, h8⟩
      · rintro i f A hi ⟨ha, ⟨hle, h1, h2, h3⟩, h8⟩
        have hw := wrap_succ hi (by omega)
        simp only [n_gimletref26_used_r14, h8, hw, go_sem, ↓reduceIte, eq_self]
        exact Here.mk ⟨hi, ha, ⟨hle, h1, h2, h3⟩, rfl⟩
    clear hle h1 h2 h3
    rintro f A ⟨rfl, hle⟩
    simp only [n_gimletref26_used_r16, hle12.trans hle, go_sem, ↓reduceIte, eq_self]
end Go.NL

set_option linter.unusedVariables false

set_option maxRecDepth 10000
namespace Go.NL
open Go.Proofs
theorem OutI.rest {A0 A : Heap} {v : AV} {l : List Int} (h : OutI A0 A v l) (hle : A0.le A) : ∃ B : Heap, A0.le B ∧ B.le A ∧ OutI B A v l ∧ ∀ c, A c = none → B c = none := by
  rcases h with ⟨h1, rfl⟩ | ⟨b, h1, h2, h3, h4⟩
  · exact ⟨A, hle, .refl _, .inl ⟨h1, rfl⟩, fun c h => h⟩
  · refine ⟨A.del b, ⟨fun c y hc => ?_⟩, ⟨fun c y hc => ?_⟩, .inr ⟨b, h1, h2, by simp [Heap.del], h4⟩, fun c h => ?_⟩
    · have hne : c ≠ b := fun e => by subst e; rw [h3] at hc; cases hc
      simp [Heap.del, hne, hle.get c y hc]
    · simp only [Heap.del] at hc
      split at hc
      · cases hc
      · exact hc
    · simp [Heap.del, h]
def usesA (bound : Int) (m : List Int) (a : Atom) : List Int := if (decide (a.kind = 1) && (decide (1 ≤ a.n) && (decide (a.n ≤ bound) && !decide (a.n ∈ m)))) = true then m ++ [a.n] else m
mutual
/-- The variables that a part uses, from 1 to a bound, behind some. -/
def Core.uses26 : Core → Int → List Int → List Int
  | .mk _ _ _ _ _ a _ _ _ l, bound, m => Core.usess26 l bound (a.foldl (usesA bound) m)
def Core.usess26 : List Core → Int → List Int → List Int
  | [], _, m => m
  | c :: cs, bound, m => Core.usess26 cs bound (c.uses26 bound m)
end
theorem usess26_app (bound : Int) : ∀ (a b : List Core) (m : List Int), Core.usess26 (a ++ b) bound m = Core.usess26 b bound (Core.usess26 a bound m)
  | [], b, m => by simp [Core.usess26]
  | c :: a, b, m => by simp only [List.cons_append, Core.usess26, usess26_app bound a b]
theorem usess26_take {bound : Int} {m : List Int} (l : List Core) (i : Nat) (h : i < l.length) : Core.usess26 (l.take (i + 1)) bound m = l[i].uses26 bound (Core.usess26 (l.take i) bound m) := by
  rw [List.take_add_one, List.getElem?_eq_getElem h, usess26_app]
  simp [Core.usess26]
theorem usesA_len (bound : Int) (m : List Int) (a : Atom) : (usesA bound m a).length ≤ m.length + 1 := by
  unfold usesA
  split <;> simp
theorem usesAs_len (bound : Int) : ∀ (l : List Atom) (m : List Int), (l.foldl (usesA bound) m).length ≤ m.length + l.length
  | [], m => by simp
  | a :: l, m => by
    have h1 := usesA_len bound m a
    have h2 := usesAs_len bound l (usesA bound m a)
    simp only [List.foldl_cons, List.length_cons]
    omega
mutual
theorem uses26_len (bound : Int) : ∀ (c : Core) (m : List Int), (c.uses26 bound m).length ≤ m.length + c.atoms
  | .mk _ _ _ _ _ a _ _ _ l, m => by
    have h1 := usesAs_len bound a m
    have h2 := usess26_len bound l (a.foldl (usesA bound) m)
    simp only [Core.uses26, Core.atoms]
    omega
theorem usess26_len (bound : Int) : ∀ (l : List Core) (m : List Int), (Core.usess26 l bound m).length ≤ m.length + Core.atomss l
  | [], m => by simp [Core.usess26, Core.atomss]
  | c :: l, m => by
    have h1 := uses26_len bound c m
    have h2 := usess26_len bound l (c.uses26 bound m)
    simp only [Core.usess26, Core.atomss]
    omega
end
theorem atomss_take_le : ∀ (l : List Core) (i : Nat), Core.atomss (l.take i) ≤ Core.atomss l
  | [], i => by simp
  | c :: l, 0 => by simp [Core.atomss]
  | c :: l, i + 1 => by
    have := atomss_take_le l i
    simp only [List.take_succ_cons, Core.atomss]
    omega
theorem atomss_take_one (l : List Core) (i : Nat) (h : i < l.length) : Core.atomss (l.take i) + l[i].atoms ≤ Core.atomss l := by
  have h1 := atomss_take_le l (i + 1)
  have e : Core.atomss (l.take (i + 1)) = Core.atomss (l.take i) + l[i].atoms := by
    have : ∀ a b : List Core, Core.atomss (a ++ b) = Core.atomss a + Core.atomss b := by
      intro a b
      induction a with
      | nil => simp [Core.atomss]
      | cons x a ih => simp only [List.cons_append, Core.atomss, ih]; omega
    rw [List.take_add_one, List.getElem?_eq_getElem h, this]
    simp [Core.atomss]
  omega
set_option maxHeartbeats 2000000 in
theorem uses26_run (bound : Int) : ∀ (N : Nat) (c : Core), c.size ≤ N → c.small big = true → ∀ {A0 A : Heap} {v : AV} {m : List Int} {K : AV → Heap → Prop}, OutI A0 A v m → A0.le A → m.length + c.atoms ≤ big →
    (∀ v' A', OutI A0 A' v' (c.uses26 bound m) → A0.le A' → K v' A') → NCalls Try.prog F_gimletref26_uses [c.enc, .int .i64 bound, v] A K := by
  have hbig : big = 1099511627776 := rfl
  intro N
  induction N with
  | zero => intro c hc; cases c; simp [Core.size] at hc
  | succ N ih =>
    intro c hc hsm A0 A v m K hv hle0 hlen hK
    refine NCalls.walk c_gimletref26_uses (Nat.le_of_ble_eq_true rfl) ?_
    obtain ⟨B, hB0, hBA, hvB, hBn⟩ := hv.rest hle0
    have hone := c.one_enc
    obtain ⟨k, x, n, s, na, a, nt, t, nl, l⟩ := c
    have hl : Core.sizes l ≤ N := by simp only [Core.size] at hc; omega
    simp only [Core.small, Bool.and_eq_true, decide_eq_true_eq] at hsm
    obtain ⟨⟨⟨sa, st⟩, sl⟩, sls⟩ := hsm
    have hC : (Core.mk k x n s na a nt t nl l).enc.cells = [.int .i64 k, .int .i64 x, .int .i64 n, .str s, encSl na 3 (a.map Atom.enc), encSl nt 1 (t.map encInt), encSl nl 7 (l.map Core.enc)] := by simp only [Core.enc, encsL, AV.cells]
    rw [hC] at hone
    simp only [Core.uses26] at hK
    simp only [Core.atoms] at hlen
    generalize (Core.mk k x n s na a nt t nl l).enc = ce at hC ⊢
    have hsub : ∀ y ∈ l, ∀ {A0 A : Heap} {v : AV} {m : List Int} {K : AV → Heap → Prop}, OutI A0 A v m → A0.le A → m.length + y.atoms ≤ big →
        (∀ v' A', OutI A0 A' v' (y.uses26 bound m) → A0.le A' → K v' A') → NCalls Try.prog F_gimletref26_uses [y.enc, .int .i64 bound, v] A K := fun y hy A0 A v m K h1 h2 h3 h4 =>
      ih y (Nat.le_trans (Core.size_mem hy) hl) (Core.smalls_mem sls y hy) h1 h2 h3 h4
    clear ih
    simp only [n_gimletref26_uses]
    refine nwp_then (fun f A => ∃ b A2, A0.le A2 ∧ A2.le A ∧ OutI A2 A (f 2) m ∧ f 1 = .int .i64 bound ∧ f 3 = .ptr b 0 ∧ A2 b = some (.cells [.int .i64 k, .int .i64 x, .int .i64 n, .str s, encSl na 3 (a.map Atom.enc), encSl nt 1 (t.map encInt), encSl nl 7 (l.map Core.enc)])) ?_ ?_
    · simp only [n_gimletref26_uses_r0, hC, hone, go_sem, eq_self]
      intro b hb
      refine Here.mk ⟨b, B.set b (.cells [.int .i64 k, .int .i64 x, .int .i64 n, .str s, encSl na 3 (a.map Atom.enc), encSl nt 1 (t.map encInt), encSl nl 7 (l.map Core.enc)]), hB0.set (hBn b hb), ⟨fun c y hc => ?_⟩, ?_, rfl, rfl, Heap.set_same _ _ _⟩
      · by_cases h : c = b
        · subst h
          rw [Heap.set_same] at hc ⊢
          exact hc
        · rw [Heap.set_other _ _ h] at hc ⊢
          exact hBA.get c y hc
      · rcases hvB with h | ⟨b', h1, h2, h3, h4⟩
        · exact .inl h
        · have hne : b' ≠ b := fun e => by subst e; rw [h2] at hb; cases hb
          exact .inr ⟨b', h1, by rw [Heap.set_other _ _ hne]; exact h2, by rw [Heap.set_other _ _ hne]; exact h3, h4⟩
    clear hv hvB hBA hB0 hBn hle0
    rintro f A ⟨b, A2, hle02, hle, ho, h1, h3, hb2⟩
    clear hC hone
    -- the atoms
    refine nwp_cut (fun f A => A2.le A ∧ f 1 = .int .i64 bound ∧ f 3 = .ptr b 0 ∧ OutI A2 A (f 2) (a.foldl (usesA bound) m)) ?_ ?_
    · refine nwp_then (fun f A => (A2.le A ∧ f 1 = .int .i64 bound ∧ f 3 = .ptr b 0 ∧ OutI A2 A (f 2) m) ∧ f 7 = .int .i64 0) ?_ ?_
      · simp only [n_gimletref26_uses_r1, go_sem]
        exact Here.mk ⟨⟨hle, h1, h3, ho⟩, rfl⟩
      clear hle h1 h3 ho
      rintro f A ⟨⟨hle, h1, h3, ho⟩, h7⟩
      refine nwp_while (t := 14) (id := 0) (id2 := 1) a.length (fun i f A => i ≤ a.length ∧ (A2.le A ∧ f 1 = .int .i64 bound ∧ f 3 = .ptr b 0 ∧ OutI A2 A (f 2) ((a.take i).foldl (usesA bound) m)) ∧ f 7 = .int .i64 i)
        (fun i f A => (A2.le A ∧ f 1 = .int .i64 bound ∧ f 3 = .ptr b 0 ∧ OutI A2 A (f 2) ((a.take i).foldl (usesA bound) m)) ∧ f 7 = .int .i64 i)
        (fun i f A => (A2.le A ∧ f 1 = .int .i64 bound ∧ f 3 = .ptr b 0 ∧ OutI A2 A (f 2) ((a.take (i + 1)).foldl (usesA bound) m)) ∧ f 7 = .int .i64 i) ⟨Nat.zero_le _, ⟨hle, h1, h3, ho⟩, h7⟩ ?_ ?_ ?_
      · rintro i f A ⟨hi, ⟨hle, h1, h3, ho⟩, h7⟩
        have hb := hle.get _ _ hb2
        simp only [n_gimletref26_uses_r2, h3, h7, hb, lenAV_encSl, List.length_map, lt_dec, go_sem, Nat.reduceEqDiff, ↓reduceIte, eq_self]
        refine Here.mk ⟨_, rfl, fun hb => ⟨of_decide_eq_true hb, ⟨hle, h1, h3, ho⟩, h7⟩, fun hb => ⟨hle, h1, h3, ?_⟩⟩
        have := of_decide_eq_false hb
        rw [List.take_of_length_le (by omega)] at ho
        exact ho
      · rintro i f A hi ⟨⟨hle, h1, h3, ho⟩, h7⟩
        have hb := hle.get _ _ hb2
        have hix := indexAddr_encSl na 3 (a.map Atom.enc) i a[i].enc (by rw [List.getElem?_map, List.getElem?_eq_getElem hi]; rfl)
        have htez := a[i].take_enc
        have hln := usesAs_len bound (a.take i) m
        rw [List.length_take] at hln
        rw [foldl_take _ _ _ _ hi]
        generalize (a.take i).foldl (usesA bound) m = m1 at ho hln ⊢
        generalize a[i] = z at hix htez ⊢
        obtain ⟨zk, zn, zs⟩ := z
        simp only [Atom.enc_cells] at hix htez
        refine nwp_then (fun f A => ∃ b8, (A2.le A ∧ f 1 = .int .i64 bound ∧ f 3 = .ptr b 0 ∧ OutI A2 A (f 2) m1) ∧ f 7 = .int .i64 i ∧ f 8 = .ptr b8 0 ∧ A b8 = some (.cells [.int .i64 zk, .int .i64 zn, .str zs])) ?_ ?_
        · simp only [n_gimletref26_uses_r3, h3, h7, hb, hix, htez, Atom.enc_cells, go_sem, Nat.reduceEqDiff, Nat.reduceAdd, Nat.reduceLeDiff, ↓reduceIte, eq_self]
          intro b8 hb8
          try simp only [Atom.enc_cells, Atom.one_enc, go_sem, Nat.reduceEqDiff, Nat.reduceAdd, Nat.reduceSub, Nat.reduceLeDiff, Nat.reduceLT, Nat.reduceMul, Int.reduceEq, Int.reduceLT, Int.reduceLE, Int.reduceNeg, Int.reduceToNat, Int.reduceAdd, Int.reduceSub, Int.cast_ofNat_Int, Int.cast_ofNat_Int, reduceCtorEq, ↓reduceIte, Bool.false_eq_true, decide_true, decide_false, eq_self, Bool.not_true, Bool.not_false]
          refine Here.mk ⟨b8, ⟨?_, h1, h3, ?_⟩, h7, rfl, ?_⟩
          · first | exact hle.set hb8 | (rw [Heap.set_set]; exact hle.set hb8)
          · first | exact ho.fresh hb8 | (rw [Heap.set_set]; exact ho.fresh hb8)
          · simp
        clear hle h1 h3 ho h7 hb
        rintro f A ⟨b8, ⟨hle, h1, h3, ho⟩, h7, h8, hb8⟩
        generalize hv2 : f 2 = w at ho
        have ham := among_spec ho.at (by omega) zn
        simp only [usesA]
        generalize hT : (decide (zk = 1) && (decide (1 ≤ zn) && (decide (zn ≤ bound) && !decide (zn ∈ m1)))) = T
        refine nwp_then (fun f A => ((A2.le A ∧ f 1 = .int .i64 bound ∧ f 3 = .ptr b 0 ∧ f 2 = w ∧ OutI A2 A w m1) ∧ f 7 = .int .i64 i ∧ f 8 = .ptr b8 0 ∧ A b8 = some (.cells [.int .i64 zk, .int .i64 zn, .str zs])) ∧ f 42 = .bool T) ?_ ?_
        · by_cases hk : zk = 1
          · have d1 : decide (zk = 1) = true := by simpa using hk
            by_cases hn : 1 ≤ zn
            · have d2 : decide (1 ≤ zn) = true := by simpa using hn
              by_cases hn2 : zn ≤ bound
              · have d3 : decide (zn ≤ bound) = true := by simpa using hn2
                simp only [n_gimletref26_uses_r4, h1, h8, hv2, hb8, d1, d2, d3, go_sem, Nat.reduceEqDiff, ↓reduceIte, eq_self]
                refine ham.call (Heap.le.refl _) ?_
                try simp only [go_sem, Nat.reduceEqDiff, ↓reduceIte, eq_self]
                refine Here.mk ⟨⟨⟨hle, h1, h3, hv2, ho⟩, h7, h8, hb8⟩, ?_⟩
                show AV.bool _ = AV.bool _
                rw [← hT]
                simp [hk, hn, hn2]
              · have d3 : decide (zn ≤ bound) = false := by simpa using hn2
                simp only [n_gimletref26_uses_r4, h1, h8, hb8, d1, d2, d3, go_sem, Nat.reduceEqDiff, ↓reduceIte, Bool.false_eq_true, eq_self]
                refine Here.mk ⟨⟨⟨hle, h1, h3, hv2, ho⟩, h7, h8, hb8⟩, ?_⟩
                show AV.bool _ = AV.bool _
                rw [← hT]
                simp [hk, hn, hn2]
            · have d2 : decide (1 ≤ zn) = false := by simpa using hn
              simp only [n_gimletref26_uses_r4, h8, hb8, d1, d2, go_sem, Nat.reduceEqDiff, ↓reduceIte, Bool.false_eq_true, eq_self]
              refine Here.mk ⟨⟨⟨hle, h1, h3, hv2, ho⟩, h7, h8, hb8⟩, ?_⟩
              show AV.bool _ = AV.bool _
              rw [← hT]
              simp [hk, hn]
          · have d1 : decide (zk = 1) = false := by simpa using hk
            simp only [n_gimletref26_uses_r4, h8, hb8, d1, go_sem, Nat.reduceEqDiff, ↓reduceIte, Bool.false_eq_true, eq_self]
            refine Here.mk ⟨⟨⟨hle, h1, h3, hv2, ho⟩, h7, h8, hb8⟩, ?_⟩
            show AV.bool _ = AV.bool _
            rw [← hT]
            simp [hk]
        clear hle h1 h3 ho h7 h8 hb8 ham hv2
        rintro f A ⟨⟨⟨hle, h1, h3, h2, ho⟩, h7, h8, hb8⟩, ht⟩
        refine nwp_test _ ht (fun hc => ?_) fun hc => ?_
        · rw [hc, if_pos rfl]
          refine nwp_last (fun f A => (A2.le A ∧ f 1 = .int .i64 bound ∧ f 3 = .ptr b 0 ∧ OutI A2 A (f 2) (m1 ++ [zn])) ∧ f 7 = .int .i64 i) ?_ fun f A h => h
          simp only [n_gimletref26_uses_r5, h2, h8, hb8, go_sem, Nat.reduceEqDiff, Nat.reduceLeDiff, ↓reduceIte, eq_self]
          intro b2 hb2'
          refine append_ints (m := [zn]) (ho.fresh hb2') (hle.set hb2') (src_one _ _ _) (by simp; omega) fun v' A' ho' hle' _ => ?_
          try simp only [go_sem, Nat.reduceEqDiff, Nat.reduceAdd, Nat.reduceSub, Nat.reduceLeDiff, Nat.reduceLT, Nat.reduceMul, Int.reduceEq, Int.reduceLT, Int.reduceLE, Int.reduceNeg, Int.reduceToNat, Int.reduceAdd, Int.reduceSub, Int.cast_ofNat_Int, Int.cast_ofNat_Int, reduceCtorEq, ↓reduceIte, Bool.false_eq_true, decide_true, decide_false, eq_self, Bool.not_true, Bool.not_false]
          exact Here.mk ⟨⟨hle', h1, h3, ho'⟩, h7⟩
        · rw [hc, if_neg Bool.false_ne_true]
          exact ⟨⟨hle, h1, h3, by rw [h2]; exact ho⟩, h7⟩
      · rintro i f A hi ⟨⟨hle, h1, h3, ho⟩, h7⟩
        have hw := wrap_succ hi (by omega)
        simp only [n_gimletref26_uses_r6, h7, hw, go_sem, ↓reduceIte, eq_self]
        exact Here.mk ⟨hi, ⟨hle, h1, h3, ho⟩, rfl⟩
    clear hle h1 h3 ho
    rintro f A ⟨hle, h1, h3, ho⟩
    have hln := usesAs_len bound a m
    generalize a.foldl (usesA bound) m = m1 at ho hln hK
    -- the parts
    refine nwp_cut (fun f A => A2.le A ∧ OutI A2 A (f 2) (Core.usess26 l bound m1)) ?_ ?_
    · refine nwp_then (fun f A => (A2.le A ∧ f 1 = .int .i64 bound ∧ f 3 = .ptr b 0 ∧ OutI A2 A (f 2) m1) ∧ f 9 = .int .i64 0) ?_ ?_
      · simp only [n_gimletref26_uses_r8, go_sem]
        exact Here.mk ⟨⟨hle, h1, h3, ho⟩, rfl⟩
      clear hle h1 h3 ho
      rintro f A ⟨⟨hle, h1, h3, ho⟩, h9⟩
      refine nwp_while (t := 52) (id := 2) (id2 := 3) l.length (fun i f A => i ≤ l.length ∧ (A2.le A ∧ f 1 = .int .i64 bound ∧ f 3 = .ptr b 0 ∧ OutI A2 A (f 2) (Core.usess26 (l.take i) bound m1)) ∧ f 9 = .int .i64 i)
        (fun i f A => (A2.le A ∧ f 1 = .int .i64 bound ∧ f 3 = .ptr b 0 ∧ OutI A2 A (f 2) (Core.usess26 (l.take i) bound m1)) ∧ f 9 = .int .i64 i)
        (fun i f A => (A2.le A ∧ f 1 = .int .i64 bound ∧ f 3 = .ptr b 0 ∧ OutI A2 A (f 2) (Core.usess26 (l.take (i + 1)) bound m1)) ∧ f 9 = .int .i64 i) ⟨Nat.zero_le _, ⟨hle, h1, h3, by simpa [Core.usess26] using ho⟩, h9⟩ ?_ ?_ ?_
      · rintro i f A ⟨hi, ⟨hle, h1, h3, ho⟩, h9⟩
        have hb := hle.get _ _ hb2
        simp only [n_gimletref26_uses_r9, h3, h9, hb, lenAV_encSl, List.length_map, lt_dec, go_sem, Nat.reduceEqDiff, ↓reduceIte, eq_self]
        refine Here.mk ⟨_, rfl, fun hb => ⟨of_decide_eq_true hb, ⟨hle, h1, h3, ho⟩, h9⟩, fun hb => ⟨hle, ?_⟩⟩
        have := of_decide_eq_false hb
        rw [List.take_of_length_le (by omega)] at ho
        exact ho
      · rintro i f A hi ⟨⟨hle, h1, h3, ho⟩, h9⟩
        have hb := hle.get _ _ hb2
        have hix := indexAddr_encSl nl 7 (l.map Core.enc) i l[i].enc (by rw [List.getElem?_map, List.getElem?_eq_getElem hi]; rfl)
        have htey := l[i].take_enc
        have hsy := @hsub l[i] (List.getElem_mem hi)
        have hln2 := usess26_len bound (l.take i) m1
        have hat := atomss_take_one l i hi
        rw [usess26_take _ _ hi]
        generalize Core.usess26 (l.take i) bound m1 = m2 at ho hln2 ⊢
        generalize l[i] = y at hix htey hsy hat ⊢
        generalize hv2 : f 2 = w at ho
        refine nwp_last (fun f A => (A2.le A ∧ f 1 = .int .i64 bound ∧ f 3 = .ptr b 0 ∧ OutI A2 A (f 2) (y.uses26 bound m2)) ∧ f 9 = .int .i64 i) ?_ fun f A h => h
        simp only [n_gimletref26_uses_r10, h1, h3, h9, hv2, hb, hix, htey, go_sem, Nat.reduceEqDiff, ↓reduceIte, eq_self]
        refine hsy ho hle (by omega) fun v' A' ho' hle' => ?_
        try simp only [go_sem, Nat.reduceEqDiff, Nat.reduceAdd, Nat.reduceSub, Nat.reduceLeDiff, Nat.reduceLT, Nat.reduceMul, Int.reduceEq, Int.reduceLT, Int.reduceLE, Int.reduceNeg, Int.reduceToNat, Int.reduceAdd, Int.reduceSub, Int.cast_ofNat_Int, Int.cast_ofNat_Int, reduceCtorEq, ↓reduceIte, Bool.false_eq_true, decide_true, decide_false, eq_self, Bool.not_true, Bool.not_false]
        exact Here.mk ⟨⟨hle', h1, h3, ho'⟩, h9⟩
      · rintro i f A hi ⟨⟨hle, h1, h3, ho⟩, h9⟩
        have hw := wrap_succ hi (by omega)
        simp only [n_gimletref26_uses_r11, h9, hw, go_sem, ↓reduceIte, eq_self]
        exact Here.mk ⟨hi, ⟨hle, h1, h3, ho⟩, rfl⟩
    clear hle h1 h3 ho
    rintro f A ⟨hle, ho⟩
    simp only [n_gimletref26_uses_r13, go_sem, ↓reduceIte, eq_self]
    exact hK _ _ (ho.lower hle02) (hle02.trans hle)
end Go.NL

set_option linter.unusedVariables false

set_option maxRecDepth 10000
namespace Go.NL
open Go.Proofs
variable {nf : Bool}
def check26 (funs : List FlatF) (main : Core) : Int :=
  if (decide (16384 < funs.length) || !shapes26 funs main) = true then 2
  else if (twiceL main.all26 (-1) || funs.any fun p => twiceL p.2.all26 p.1) = true then 7
  else if (!main.used26 (-1) [] || funs.any fun p => !p.2.used26 p.1 []) = true then 6
  else 0
structure Core.Fine26 (c : Core) : Prop where
  sm : c.small big = true
  al : c.all26.length ≤ big
  at_ : c.atoms ≤ big
set_option maxHeartbeats 1000000 in
theorem check26_spec (funs : List FlatF) (main : Core) (hf : funs.length ≤ big) (hm : main.Fine26) (hfs : ∀ p ∈ funs, p.2.Fine26) : NPure Try.prog F_gimletref26_Check [encFlatN nf funs main] (.int .i64 (check26 funs main)) := by
  have hbig : big = 1099511627776 := rfl
  refine NPure.walk c_gimletref26_Check (Nat.le_of_ble_eq_true rfl) fun A0 => ?_
  have hsh := shapes_spec (nf := nf) funs main hf hm.sm fun p hp => (hfs p hp).sm
  have hal : ∀ c : Core, c.Fine26 → NPure Try.prog F_gimletref26_all [c.enc] (encSl true 1 (c.all26.map encInt)) := fun c hc => all26_spec c hc.sm hc.al
  have htw : ∀ (c : Core) (bound : Int), c.Fine26 → NPure Try.prog F_gimletref26_twice [encSl true 1 (c.all26.map encInt), .int .i64 bound] (.bool (twiceL c.all26 bound)) := fun c bound hc => refTwice_spec true c.all26 hc.al bound
  have hus : ∀ (c : Core) (bound : Int), c.Fine26 → NPure Try.prog F_gimletref26_used [c.enc, .int .i64 bound, .nilslice] (.bool (c.used26 bound [])) := fun c bound hc =>
    (used26_spec bound c.size c (Nat.le_refl _) hc.sm (A0 := fun _ => none) (v := .nilslice) (m := []) (.inl ⟨true, rfl⟩) (by have := hc.al; simp; omega)).pure
  have hof := oneFlatN nf funs main
  have htf := takeFlatN nf funs main
  have hfc := flatN_cells nf funs main
  have htm := take1 (encSl nf 8 (encF funs)) main
  have hlf : ∀ B, lenAV B .slice (encSl nf 8 (encF funs)) = some funs.length := fun B => by rw [lenAV_encSl, encF_len]
  have hix : ∀ i, (h : i < funs.length) → indexAddrAV 8 none (encSl nf 8 (encF funs)) (i : Int) = some (.iptr (.int .i64 funs[i].1 :: funs[i].2.enc.cells) 0) := fun i h => indexAddr_encSl nf 8 (encF funs) i (FlatF.enc funs[i]) (by simp [encF, List.getElem?_eq_getElem h])
  generalize hO : check26 funs main = O
  rw [check26] at hO
  generalize shapes26 funs main = SH at hsh hO
  have halm := hal main hm
  have htwm := htw main (-1) hm
  have husm := hus main (-1) hm
  generalize encSl true 1 (main.all26.map encInt) = vm at halm htwm
  generalize twiceL main.all26 (-1) = T1 at htwm hO
  generalize main.used26 (-1) [] = U1 at husm hO
  generalize encFlatN nf funs main = fl at hsh hof htf hfc ⊢
  generalize encSl nf 8 (encF funs) = fv at hfc htm hlf hix
  simp only [n_gimletref26_Check]
  refine nwp_then (fun f A => ∃ b1, A0.le A ∧ f 1 = .ptr b1 0 ∧ A b1 = some (.cells (fv :: main.enc.cells))) ?_ ?_
  · simp only [n_gimletref26_Check_r0, hof, go_sem, eq_self]
    intro b hb
    exact Here.mk ⟨b, (Heap.le.refl _).set hb, rfl, by rw [← hfc]; exact Heap.set_same _ _ _⟩
  rintro f A ⟨b1, hle, h1, hb1⟩
  rw [hfc] at htf
  refine nwp_cut (fun f A => (decide (16384 < funs.length) || !SH) = false ∧ A0.le A ∧ f 1 = .ptr b1 0 ∧ A b1 = some (.cells (fv :: main.enc.cells))) ?_ ?_
  · refine nwp_then (fun f A => (A0.le A ∧ f 1 = .ptr b1 0 ∧ A b1 = some (.cells (fv :: main.enc.cells))) ∧ f 15 = .bool (decide (16384 < funs.length) || !SH)) ?_ ?_
    · by_cases hl : 16384 < funs.length
      · have hd : decide ((16384 : Int) < (funs.length : Int)) = true := by simp; omega
        simp only [n_gimletref26_Check_r1, h1, hb1, hlf, hd, go_sem, Nat.reduceEqDiff, ↓reduceIte, eq_self]
        refine Here.mk ⟨⟨hle, h1, hb1⟩, ?_⟩
        show AV.bool _ = AV.bool _
        simp [hl]
      · have hd : decide ((16384 : Int) < (funs.length : Int)) = false := by simp; omega
        simp only [n_gimletref26_Check_r1, h1, hb1, hlf, hd, htf, go_sem, Nat.reduceEqDiff, ↓reduceIte, eq_self]
        refine hsh.call ?_
        try simp only [go_sem, Nat.reduceEqDiff, ↓reduceIte, Bool.false_eq_true, eq_self]
        refine Here.mk ⟨⟨hle, h1, hb1⟩, ?_⟩
        show AV.bool _ = AV.bool _
        simp [hl]
    clear hle h1 hb1
    rintro f A ⟨⟨hle, h1, hb1⟩, ht⟩
    refine nwp_test _ ht (fun hc => ?_) fun hc => ?_
    · rw [if_pos hc] at hO
      simp only [n_gimletref26_Check_r2, hle, hO, go_sem, ↓reduceIte, eq_self]
    · exact ⟨hc, hle, h1, hb1⟩
  clear hle h1 hb1
  rintro f A ⟨hc1, hle, h1, hb1⟩
  rw [if_neg (by rw [hc1]; exact Bool.false_ne_true)] at hO
  refine nwp_then (fun f A => A0.le A ∧ f 1 = .ptr b1 0 ∧ A b1 = some (.cells (fv :: main.enc.cells)) ∧ f 3 = .bool T1 ∧ f 4 = .bool (!U1)) ?_ ?_
  · simp only [n_gimletref26_Check_r3, h1, hb1, htm, go_sem, Nat.reduceEqDiff, Int.reduceNeg, ↓reduceIte, eq_self]
    refine halm.call ?_
    try simp only [hb1, htm, go_sem, Int.reduceNeg, eq_self]
    refine htwm.call ?_
    try simp only [hb1, htm, go_sem, Int.reduceNeg, eq_self]
    refine husm.call ?_
    try simp only [go_sem, Nat.reduceEqDiff, ↓reduceIte, eq_self]
    exact Here.mk ⟨hle, h1, hb1, rfl, rfl⟩
  clear hle h1 hb1
  rintro f A ⟨hle, h1, hb1, h3, h4⟩
  refine nwp_cut (fun f A => A0.le A ∧ f 3 = .bool (T1 || funs.any fun p => twiceL p.2.all26 p.1) ∧ f 4 = .bool (!U1 || funs.any fun p => !p.2.used26 p.1 [])) ?_ ?_
  · refine nwp_then (fun f A => (A0.le A ∧ f 1 = .ptr b1 0 ∧ A b1 = some (.cells (fv :: main.enc.cells))) ∧ f 3 = .bool T1 ∧ f 4 = .bool (!U1) ∧ f 5 = .int .i64 0) ?_ ?_
    · simp only [n_gimletref26_Check_r4, go_sem]
      exact Here.mk ⟨⟨hle, h1, hb1⟩, h3, h4, rfl⟩
    clear hle h1 hb1 h3 h4
    rintro f A ⟨⟨hle, h1, hb1⟩, h3, h4, h5⟩
    refine nwp_while (t := 28) (id := 0) (id2 := 1) funs.length
      (fun i f A => i ≤ funs.length ∧ (A0.le A ∧ f 1 = .ptr b1 0 ∧ A b1 = some (.cells (fv :: main.enc.cells))) ∧ f 3 = .bool (T1 || (funs.take i).any fun p => twiceL p.2.all26 p.1) ∧ f 4 = .bool (!U1 || (funs.take i).any fun p => !p.2.used26 p.1 []) ∧ f 5 = .int .i64 i)
      (fun i f A => (A0.le A ∧ f 1 = .ptr b1 0 ∧ A b1 = some (.cells (fv :: main.enc.cells))) ∧ f 3 = .bool (T1 || (funs.take i).any fun p => twiceL p.2.all26 p.1) ∧ f 4 = .bool (!U1 || (funs.take i).any fun p => !p.2.used26 p.1 []) ∧ f 5 = .int .i64 i)
      (fun i f A => (A0.le A ∧ f 1 = .ptr b1 0 ∧ A b1 = some (.cells (fv :: main.enc.cells))) ∧ f 3 = .bool (T1 || (funs.take (i + 1)).any fun p => twiceL p.2.all26 p.1) ∧ f 4 = .bool (!U1 || (funs.take (i + 1)).any fun p => !p.2.used26 p.1 []) ∧ f 5 = .int .i64 i) ⟨Nat.zero_le _, ⟨hle, h1, hb1⟩, by rw [h3]; simp, by rw [h4]; simp, h5⟩ ?_ ?_ ?_
    · rintro i f A ⟨hi, ⟨hle, h1, hb1⟩, h3, h4, h5⟩
      simp only [n_gimletref26_Check_r5, h1, h5, hb1, hlf, lt_dec, go_sem, Nat.reduceEqDiff, ↓reduceIte, eq_self]
      refine Here.mk ⟨_, rfl, fun hb => ⟨of_decide_eq_true hb, ⟨hle, h1, hb1⟩, h3, h4, h5⟩, fun hb => ⟨hle, ?_, ?_⟩⟩
      · have := of_decide_eq_false hb
        rw [List.take_of_length_le (by omega)] at h3
        exact h3
      · have := of_decide_eq_false hb
        rw [List.take_of_length_le (by omega)] at h4
        exact h4
    · rintro i f A hi ⟨⟨hle, h1, hb1⟩, h3, h4, h5⟩
      have hixi := hix i hi
      rw [any_take_succ _ _ _ hi, any_take_succ _ _ _ hi, ← Bool.or_assoc, ← Bool.or_assoc]
      generalize (T1 || (funs.take i).any fun p => twiceL p.2.all26 p.1) = T2 at h3 ⊢
      generalize (!U1 || (funs.take i).any fun p => !p.2.used26 p.1 []) = M2 at h4 ⊢
      have h26 := hfs funs[i] (List.getElem_mem hi)
      generalize funs[i] = p at hixi h26 ⊢
      obtain ⟨pn, pc⟩ := p
      simp only at hixi h26 ⊢
      have halp := hal pc h26
      have htwp := htw pc pn h26
      have husp := hus pc pn h26
      have ht8 := take8 (.int .i64 pn) pc
      have ht7 := take1 (.int .i64 pn) pc
      have hcl := pc.enc_cells
      have hone := pc.one_enc
      generalize pc.enc = ce at hixi halp husp ht8 ht7 hcl hone
      generalize encSl true 1 (pc.all26.map encInt) = vp at halp htwp
      generalize twiceL pc.all26 pn = PT at htwp ⊢
      generalize pc.used26 pn [] = PU at husp ⊢
      refine nwp_then (fun f A => ∃ b6, (A0.le A ∧ f 1 = .ptr b1 0 ∧ A b1 = some (.cells (fv :: main.enc.cells))) ∧ f 3 = .bool T2 ∧ f 4 = .bool M2 ∧ f 5 = .int .i64 i ∧ f 6 = .ptr b6 0 ∧ A b6 = some (.cells (.int .i64 pn :: ce.cells))) ?_ ?_
      · simp only [n_gimletref26_Check_r6, h1, h5, hb1, hixi, ht8, hcl, hone, go_sem, Nat.reduceEqDiff, Nat.reduceAdd, Nat.reduceLeDiff, ↓reduceIte, eq_self]
        intro b6 hb6
        refine Here.mk ⟨b6, ⟨?_, h1, ?_⟩, h3, h4, h5, rfl, ?_⟩
        · exact hle.set hb6
        · exact Heap.keep hb1 hb6
        · exact Heap.set_same _ _ _
      clear hle h1 hb1 h3 h4 h5
      rintro f A ⟨b6, ⟨hle, h1, hb1⟩, h3, h4, h5, h6, hb6⟩
      refine nwp_then (fun f A => (A0.le A ∧ f 1 = .ptr b1 0 ∧ A b1 = some (.cells (fv :: main.enc.cells))) ∧ f 3 = .bool (T2 || PT) ∧ f 4 = .bool M2 ∧ f 5 = .int .i64 i ∧ f 6 = .ptr b6 0 ∧ A b6 = some (.cells (.int .i64 pn :: ce.cells))) ?_ ?_
      · cases T2
        · simp only [n_gimletref26_Check_r7, h3, h6, hb6, ht7, go_sem, Nat.reduceEqDiff, ↓reduceIte, Bool.false_eq_true, decide_true, eq_self]
          refine halp.call ?_
          try simp only [hb6, go_sem, eq_self]
          refine htwp.call ?_
          try simp only [h3, go_sem, Nat.reduceEqDiff, Nat.reduceAdd, Nat.reduceSub, Nat.reduceLeDiff, Nat.reduceLT, Nat.reduceMul, Int.reduceEq, Int.reduceLT, Int.reduceLE, Int.reduceNeg, Int.reduceToNat, Int.reduceAdd, Int.reduceSub, Int.cast_ofNat_Int, Int.cast_ofNat_Int, reduceCtorEq, ↓reduceIte, Bool.false_eq_true, decide_true, decide_false, eq_self, Bool.not_true, Bool.not_false]
          exact Here.mk ⟨⟨hle, h1, hb1⟩, rfl, h4, h5, h6, hb6⟩
        · simp only [n_gimletref26_Check_r7, h3, go_sem, Nat.reduceEqDiff, ↓reduceIte, decide_false, eq_self]
          exact Here.mk ⟨⟨hle, h1, hb1⟩, rfl, h4, h5, h6, hb6⟩
      clear hle h1 hb1 h3 h4 h5 h6 hb6
      rintro f A ⟨⟨hle, h1, hb1⟩, h3, h4, h5, h6, hb6⟩
      refine nwp_last (fun f A => (A0.le A ∧ f 1 = .ptr b1 0 ∧ A b1 = some (.cells (fv :: main.enc.cells))) ∧ f 3 = .bool (T2 || PT) ∧ f 4 = .bool (M2 || !PU) ∧ f 5 = .int .i64 i) ?_ fun f A h => h
      · cases M2
        · simp only [n_gimletref26_Check_r8, h4, h6, hb6, ht7, go_sem, Nat.reduceEqDiff, ↓reduceIte, eq_self]
          refine husp.call ?_
          try simp only [go_sem, Nat.reduceEqDiff, ↓reduceIte, Bool.false_eq_true, eq_self]
          exact Here.mk ⟨⟨hle, h1, hb1⟩, h3, rfl, h5⟩
        · simp only [n_gimletref26_Check_r8, h4, go_sem, Nat.reduceEqDiff, ↓reduceIte, eq_self]
          exact Here.mk ⟨⟨hle, h1, hb1⟩, h3, rfl, h5⟩
    · rintro i f A hi ⟨⟨hle, h1, hb1⟩, h3, h4, h5⟩
      have hw := wrap_succ hi (by omega)
      simp only [n_gimletref26_Check_r9, h5, hw, go_sem, ↓reduceIte, eq_self]
      exact Here.mk ⟨hi, ⟨hle, h1, hb1⟩, h3, h4, rfl⟩
  clear hle h1 hb1 h3 h4
  generalize (T1 || funs.any fun p => twiceL p.2.all26 p.1) = T at hO ⊢
  generalize (!U1 || funs.any fun p => !p.2.used26 p.1 []) = M at hO ⊢
  rintro f A ⟨hle, h3, h4⟩
  refine nwp_cut (fun f A => T = false ∧ A0.le A ∧ f 4 = .bool M) ?_ ?_
  · refine nwp_then (fun f A => (A0.le A ∧ f 4 = .bool M) ∧ f 54 = .bool T) ?_ ?_
    · simp only [n_gimletref26_Check_r11, h3, go_sem]
      exact Here.mk ⟨⟨hle, h4⟩, rfl⟩
    clear hle h3 h4
    rintro f A ⟨⟨hle, h4⟩, ht⟩
    refine nwp_test _ ht (fun hc => ?_) fun hc => ?_
    · rw [if_pos hc] at hO
      subst hO
      simp only [n_gimletref26_Check_r12, hle, go_sem, ↓reduceIte, eq_self]
    · exact ⟨hc, hle, h4⟩
  clear hle h3 h4
  rintro f A ⟨hT, hle, h4⟩
  rw [if_neg (by rw [hT]; exact Bool.false_ne_true)] at hO
  refine nwp_cut (fun f A => O = 0 ∧ A0.le A) ?_ ?_
  · refine nwp_then (fun f A => A0.le A ∧ f 55 = .bool M) ?_ ?_
    · simp only [n_gimletref26_Check_r13, h4, go_sem]
      exact Here.mk ⟨hle, rfl⟩
    clear hle h4
    rintro f A ⟨hle, ht⟩
    refine nwp_test _ ht (fun hc => ?_) fun hc => ?_
    · rw [if_pos hc] at hO
      subst hO
      simp only [n_gimletref26_Check_r14, hle, go_sem, Int.reduceEq, ↓reduceIte, eq_self]
    · rw [if_neg (by rw [hc]; exact Bool.false_ne_true)] at hO
      exact ⟨hO.symm, hle⟩
  clear hle h4
  rintro f A ⟨rfl, hle⟩
  simp only [n_gimletref26_Check_r15, hle, go_sem, ↓reduceIte, eq_self]
def caps26 (funs : List FlatF) (main : Core) : List Int := if check26 funs main ≠ 0 then [] else funs.map fun p => ((p.2.uses26 p.1 []).length : Int)
set_option maxHeartbeats 1000000 in
theorem refCaptures_spec (funs : List FlatF) (main : Core) (hf : funs.length ≤ big) (hm : main.Fine26) (hfs : ∀ p ∈ funs, p.2.Fine26) : NPure Try.prog F_gimletref26_Captures [encFlatN nf funs main] (encSl true 1 ((caps26 funs main).map encInt)) := by
  have hbig : big = 1099511627776 := rfl
  refine NPure.of_body c_gimletref26_Captures (Nat.le_of_ble_eq_true rfl) fun A0 => ?_
  have hck := check26_spec (nf := nf) funs main hf hm hfs
  have hus : ∀ (c : Core) (bound : Int), c.Fine26 → ∀ {A0 A : Heap} {K : AV → Heap → Prop}, A0.le A → (∀ v' A', OutI A0 A' v' (c.uses26 bound []) → A0.le A' → K v' A') → NCalls Try.prog F_gimletref26_uses [c.enc, .int .i64 bound, .nilslice] A K := fun c bound hc A0 A K hle hk =>
    uses26_run bound c.size c (Nat.le_refl _) hc.sm (.nil _ _) hle (by have := hc.at_; simp; omega) hk
  have hof := oneFlatN nf funs main
  have htf := takeFlatN nf funs main
  have hfc := flatN_cells nf funs main
  have hlf : ∀ B, lenAV B .slice (encSl nf 8 (encF funs)) = some funs.length := fun B => by rw [lenAV_encSl, encF_len]
  have hix : ∀ i, (h : i < funs.length) → indexAddrAV 8 none (encSl nf 8 (encF funs)) (i : Int) = some (.iptr (.int .i64 funs[i].1 :: funs[i].2.enc.cells) 0) := fun i h => indexAddr_encSl nf 8 (encF funs) i (FlatF.enc funs[i]) (by simp [encF, List.getElem?_eq_getElem h])
  generalize hO : caps26 funs main = O
  rw [caps26] at hO
  generalize check26 funs main = CK at hck hO
  generalize encFlatN nf funs main = fl at hck hof htf hfc ⊢
  generalize encSl nf 8 (encF funs) = fv at hfc hlf hix
  simp only [n_gimletref26_Captures]
  refine nwp_then (fun f A => ∃ b1, A0.le A ∧ f 1 = .ptr b1 0 ∧ A b1 = some (.cells (fv :: main.enc.cells))) ?_ ?_
  · simp only [n_gimletref26_Captures_r0, hof, go_sem, eq_self]
    intro b hb
    exact Here.mk ⟨b, (Heap.le.refl _).set hb, rfl, by rw [← hfc]; exact Heap.set_same _ _ _⟩
  rintro f A1 ⟨b1, hle01, h1, hb1⟩
  rw [hfc] at htf
  refine nwp_cut (fun f A => CK = 0 ∧ A1.le A ∧ f 1 = .ptr b1 0) ?_ ?_
  · refine nwp_then (fun f A => (A1.le A ∧ f 1 = .ptr b1 0) ∧ f 8 = .bool (!decide (CK = 0))) ?_ ?_
    · simp only [n_gimletref26_Captures_r1, h1, hb1, htf, go_sem, ↓reduceIte, eq_self]
      refine hck.call ?_
      try simp only [go_sem]
      exact Here.mk ⟨⟨.refl _, h1⟩, rfl⟩
    rintro f A ⟨⟨hle, h1⟩, ht⟩
    refine nwp_test _ ht (fun hc => ?_) fun hc => ?_
    · rw [if_pos (by simpa using hc)] at hO
      subst hO
      refine nwp_then (fun f A => A1.le A ∧ f 2 = .nilslice) ?_ fun f A ⟨hle, h2⟩ => ret_same (by rw [resAV_one, h2]; rfl) (hle01.trans hle)
      simp only [n_gimletref26_Captures_r2, go_sem]
      exact Here.mk ⟨hle, rfl⟩
    · exact ⟨by simpa using hc, hle, h1⟩
  clear h1
  rintro f A ⟨hck0, hle, h1⟩
  rw [if_neg (by simp [hck0])] at hO
  refine nwp_then (fun f A => A1.le A ∧ f 1 = .ptr b1 0 ∧ OutI A1 A (f 3) []) ?_ ?_
  · simp only [n_gimletref26_Captures_r3, go_sem]
    exact Here.mk ⟨hle, h1, .nil _ _⟩
  clear hle h1
  rintro f A ⟨hle, h1, ho⟩
  refine nwp_cut (fun f A => A1.le A ∧ OutI A1 A (f 3) O) ?_ ?_
  · refine nwp_then (fun f A => (A1.le A ∧ f 1 = .ptr b1 0 ∧ OutI A1 A (f 3) []) ∧ f 4 = .int .i64 0) ?_ ?_
    · simp only [n_gimletref26_Captures_r4, go_sem]
      exact Here.mk ⟨⟨hle, h1, ho⟩, rfl⟩
    clear hle h1 ho
    rintro f A ⟨⟨hle, h1, ho⟩, h4⟩
    refine nwp_while (t := 13) (id := 0) (id2 := 1) funs.length
      (fun i f A => i ≤ funs.length ∧ (A1.le A ∧ f 1 = .ptr b1 0 ∧ OutI A1 A (f 3) ((funs.take i).map fun p => ((p.2.uses26 p.1 []).length : Int))) ∧ f 4 = .int .i64 i)
      (fun i f A => (A1.le A ∧ f 1 = .ptr b1 0 ∧ OutI A1 A (f 3) ((funs.take i).map fun p => ((p.2.uses26 p.1 []).length : Int))) ∧ f 4 = .int .i64 i)
      (fun i f A => (A1.le A ∧ f 1 = .ptr b1 0 ∧ OutI A1 A (f 3) ((funs.take (i + 1)).map fun p => ((p.2.uses26 p.1 []).length : Int))) ∧ f 4 = .int .i64 i) ⟨Nat.zero_le _, ⟨hle, h1, ho⟩, h4⟩ ?_ ?_ ?_
    · rintro i f A ⟨hi, ⟨hle, h1, ho⟩, h4⟩
      have hb := hle.get _ _ hb1
      simp only [n_gimletref26_Captures_r5, h1, h4, hb, hlf, lt_dec, go_sem, Nat.reduceEqDiff, ↓reduceIte, eq_self]
      refine Here.mk ⟨_, rfl, fun hb => ⟨of_decide_eq_true hb, ⟨hle, h1, ho⟩, h4⟩, fun hb => ⟨hle, ?_⟩⟩
      have := of_decide_eq_false hb
      rw [List.take_of_length_le (by omega), hO] at ho
      exact ho
    · rintro i f A hi ⟨⟨hle, h1, ho⟩, h4⟩
      have hb := hle.get _ _ hb1
      have hixi := hix i hi
      have h26 := hfs funs[i] (List.getElem_mem hi)
      have hnx : (funs.take (i + 1)).map (fun p => ((p.2.uses26 p.1 []).length : Int)) = (funs.take i).map (fun p => ((p.2.uses26 p.1 []).length : Int)) ++ [((funs[i].2.uses26 funs[i].1 []).length : Int)] := by
        rw [List.take_add_one, List.getElem?_eq_getElem hi, List.map_append]
        rfl
      have hlm : ((funs.take i).map fun p => ((p.2.uses26 p.1 []).length : Int)).length = i := by simp; omega
      rw [hnx]
      generalize (funs.take i).map (fun p => ((p.2.uses26 p.1 []).length : Int)) = ls at ho hlm ⊢
      generalize funs[i] = p at hixi h26 ⊢
      obtain ⟨pn, pc⟩ := p
      simp only at hixi h26 ⊢
      have hup := @hus pc pn h26
      have ht7 := take1 (.int .i64 pn) pc
      generalize pc.enc = ce at hixi hup ht7
      generalize pc.uses26 pn [] = us at hup ⊢
      generalize hv3 : f 3 = w at ho
      refine nwp_then (fun f A => (A1.le A ∧ f 1 = .ptr b1 0 ∧ f 3 = w ∧ OutI A1 A w ls) ∧ f 4 = .int .i64 i ∧ ∃ u, f 5 = u ∧ ∀ B, lenAV B .slice u = some us.length) ?_ ?_
      · simp only [n_gimletref26_Captures_r6, h1, h4, hb, hixi, ht7, go_sem, Nat.reduceEqDiff, ↓reduceIte, eq_self]
        refine hup (Heap.le.refl A) fun v' A' ho' hle' => ?_
        try simp only [go_sem, Nat.reduceEqDiff, Nat.reduceAdd, Nat.reduceSub, Nat.reduceLeDiff, Nat.reduceLT, Nat.reduceMul, Int.reduceEq, Int.reduceLT, Int.reduceLE, Int.reduceNeg, Int.reduceToNat, Int.reduceAdd, Int.reduceSub, Int.cast_ofNat_Int, Int.cast_ofNat_Int, reduceCtorEq, ↓reduceIte, Bool.false_eq_true, decide_true, decide_false, eq_self, Bool.not_true, Bool.not_false]
        exact Here.mk ⟨⟨hle.trans hle', h1, hv3, ho.step hle'⟩, h4, v', rfl, ho'.len⟩
      clear hle h1 ho h4 hb hv3
      rintro f A ⟨⟨hle, h1, h3, ho⟩, h4, u, h5, hu⟩
      refine nwp_last (fun f A => (A1.le A ∧ f 1 = .ptr b1 0 ∧ OutI A1 A (f 3) (ls ++ [(us.length : Int)])) ∧ f 4 = .int .i64 i) ?_ fun f A h => h
      simp only [n_gimletref26_Captures_r7, h3, h5, hu, go_sem, Nat.reduceEqDiff, Nat.reduceLeDiff, ↓reduceIte, eq_self]
      intro b2 hb2
      refine append_ints (m := [(us.length : Int)]) (ho.fresh hb2) (hle.set hb2) (src_one _ _ _) (by simp [hlm]; omega) fun v' A' ho' hle' _ => ?_
      try simp only [go_sem, Nat.reduceEqDiff, Nat.reduceAdd, Nat.reduceSub, Nat.reduceLeDiff, Nat.reduceLT, Nat.reduceMul, Int.reduceEq, Int.reduceLT, Int.reduceLE, Int.reduceNeg, Int.reduceToNat, Int.reduceAdd, Int.reduceSub, Int.cast_ofNat_Int, Int.cast_ofNat_Int, reduceCtorEq, ↓reduceIte, Bool.false_eq_true, decide_true, decide_false, eq_self, Bool.not_true, Bool.not_false]
      exact Here.mk ⟨⟨hle', h1, ho'⟩, h4⟩
    · rintro i f A hi ⟨⟨hle, h1, ho⟩, h4⟩
      have hw := wrap_succ hi (by omega)
      simp only [n_gimletref26_Captures_r8, h4, hw, go_sem, ↓reduceIte, eq_self]
      exact Here.mk ⟨hi, ⟨hle, h1, ho⟩, rfl⟩
  clear hle h1 ho
  rintro f A ⟨hle, ho⟩
  refine nwp_then (fun f A => A1.le A ∧ OutI A1 A (f 2) O) ?_ fun f A ⟨h1, h2⟩ => ret_out rfl (h2.lower hle01) (hle01.trans h1)
  simp only [n_gimletref26_Captures_r10, go_sem, ↓reduceIte, eq_self]
  exact Here.mk ⟨hle, ho⟩
def flatCaps (funs : List FlatF) (main : Core) : List Int := if flatCheck funs main ≠ 0 then [] else funs.map fun p => (((p.2.free.filter fun v => decide (0 < v)).length : Nat) : Int)
set_option maxHeartbeats 1000000 in
theorem Captures_spec (funs : List FlatF) (main : Core) (hf : funs.length ≤ big) (hm : main.FlatFine funs) (hfs : ∀ p ∈ funs, p.2.FlatFine funs) (hmay : flatCheck funs main = 0 → ∀ p ∈ funs, p.2.flatMay funs = true) : NPure Try.prog F_flatten_Captures [encFlat funs main] (encSl true 1 ((flatCaps funs main).map encInt)) := by
  have hbig : big = 1099511627776 := rfl
  refine NPure.of_body c_flatten_Captures (Nat.le_of_ble_eq_true rfl) fun A0 => ?_
  have hck := flatCheck_spec funs main hf hm hfs
  have hub : ∀ (c : Core), c.FlatFine funs → c.flatMay funs = true → NPure Try.prog F_core_Unbound [c.enc] (encSl true 1 (c.free.map encInt)) := fun c hc h => Unbound_spec c (hc.gd h) (hc.vr h) hc.at_
  have hfl : ∀ (c : Core), c.FlatFine funs → c.flatMay funs = true → c.free.length ≤ big := fun c hc h => by
    have := (free_range (hc.vr h)).2
    have := hc.at_
    omega
  have hof := oneFlat funs main
  have htf := takeFlat funs main
  have hfc := flat_cells funs main
  have hlf : ∀ B, lenAV B .slice (encSl true 8 (encF funs)) = some funs.length := fun B => by rw [lenAV_encSl, encF_len]
  have hix : ∀ i, (h : i < funs.length) → indexAddrAV 8 none (encSl true 8 (encF funs)) (i : Int) = some (.iptr (.int .i64 funs[i].1 :: funs[i].2.enc.cells) 0) := fun i h => indexAddr_encSl true 8 (encF funs) i (FlatF.enc funs[i]) (by simp [encF, List.getElem?_eq_getElem h])
  generalize hO : flatCaps funs main = O
  rw [flatCaps] at hO
  generalize flatCheck funs main = CK at hck hO hmay
  generalize encFlat funs main = fl at hck hof htf hfc ⊢
  generalize encSl true 8 (encF funs) = fv at hfc hlf hix
  simp only [n_flatten_Captures]
  refine nwp_then (fun f A => ∃ b1, A0.le A ∧ f 1 = .ptr b1 0 ∧ A b1 = some (.cells (fv :: main.enc.cells))) ?_ ?_
  · simp only [n_flatten_Captures_r0, hof, go_sem, eq_self]
    intro b hb
    exact Here.mk ⟨b, (Heap.le.refl _).set hb, rfl, by rw [← hfc]; exact Heap.set_same _ _ _⟩
  rintro f A1 ⟨b1, hle01, h1, hb1⟩
  rw [hfc] at htf
  refine nwp_cut (fun f A => CK = 0 ∧ A1.le A ∧ f 1 = .ptr b1 0) ?_ ?_
  · refine nwp_then (fun f A => (A1.le A ∧ f 1 = .ptr b1 0) ∧ f 11 = .bool (!decide (CK = 0))) ?_ ?_
    · simp only [n_flatten_Captures_r1, h1, hb1, htf, go_sem, ↓reduceIte, eq_self]
      refine hck.call ?_
      try simp only [go_sem]
      exact Here.mk ⟨⟨.refl _, h1⟩, rfl⟩
    rintro f A ⟨⟨hle, h1⟩, ht⟩
    refine nwp_test _ ht (fun hc => ?_) fun hc => ?_
    · rw [if_pos (by simpa using hc)] at hO
      subst hO
      refine nwp_then (fun f A => A1.le A ∧ f 2 = .nilslice) ?_ fun f A ⟨hle, h2⟩ => ret_same (by rw [resAV_one, h2]; rfl) (hle01.trans hle)
      simp only [n_flatten_Captures_r2, go_sem]
      exact Here.mk ⟨hle, rfl⟩
    · exact ⟨by simpa using hc, hle, h1⟩
  clear h1
  rintro f A ⟨hck0, hle, h1⟩
  rw [if_neg (by simp [hck0])] at hO
  have hmay := hmay hck0
  refine nwp_then (fun f A => A1.le A ∧ f 1 = .ptr b1 0 ∧ OutI A1 A (f 3) []) ?_ ?_
  · simp only [n_flatten_Captures_r3, go_sem]
    exact Here.mk ⟨hle, h1, .nil _ _⟩
  clear hle h1
  rintro f A ⟨hle, h1, ho⟩
  refine nwp_cut (fun f A => A1.le A ∧ OutI A1 A (f 3) O) ?_ ?_
  · refine nwp_then (fun f A => (A1.le A ∧ OutI A1 A (f 3) []) ∧ f 13 = fv ∧ f 14 = .int .i64 funs.length ∧ f 15 = .int .i64 0) ?_ ?_
    · have hb := hle.get _ _ hb1
      simp only [n_flatten_Captures_r4, h1, hb, hlf, go_sem, ↓reduceIte, eq_self]
      exact Here.mk ⟨⟨hle, ho⟩, rfl, rfl, rfl⟩
    clear hle h1 ho
    rintro f A ⟨⟨hle, ho⟩, h13, h14, h15⟩
    refine nwp_for (ti := 15) (tn := 14) (tt := 16) (tw := 36) (id := 0) (id2 := 1) funs.length (by omega)
      (fun i f A => (A1.le A ∧ OutI A1 A (f 3) ((funs.take i).map fun p => (((p.2.free.filter fun v => decide (0 < v)).length : Nat) : Int))) ∧ f 13 = fv) (by decide) ?_ h15 h14 ⟨⟨hle, ho⟩, h13⟩ ?_ ?_
    · rintro i f A d v hd ⟨⟨q1, q2⟩, q3⟩
      rcases hd with rfl | rfl | rfl
      all_goals exact ⟨⟨q1, q2⟩, q3⟩
    · rintro i f A hi ⟨⟨hle, ho⟩, h13⟩ h15 h14
      have hixi := hix i hi
      have h26 := hfs funs[i] (List.getElem_mem hi)
      have hmi := hmay funs[i] (List.getElem_mem hi)
      have hnx : (funs.take (i + 1)).map (fun p => (((p.2.free.filter fun v => decide (0 < v)).length : Nat) : Int)) = (funs.take i).map (fun p => (((p.2.free.filter fun v => decide (0 < v)).length : Nat) : Int)) ++ [(((funs[i].2.free.filter fun v => decide (0 < v)).length : Nat) : Int)] := by
        rw [List.take_add_one, List.getElem?_eq_getElem hi, List.map_append]
        rfl
      have hlm : ((funs.take i).map fun p => (((p.2.free.filter fun v => decide (0 < v)).length : Nat) : Int)).length = i := by simp; omega
      rw [hnx]
      generalize (funs.take i).map (fun p => (((p.2.free.filter fun v => decide (0 < v)).length : Nat) : Int)) = ls at ho hlm ⊢
      generalize funs[i] = p at hixi h26 hmi ⊢
      obtain ⟨pn, pc⟩ := p
      simp only at hixi h26 hmi ⊢
      have hup := hub pc h26 hmi
      have hfl := hfl pc h26 hmi
      have ht8 := take8 (.int .i64 pn) pc
      have ht7 := take1 (.int .i64 pn) pc
      have hcl := pc.enc_cells
      have hone := pc.one_enc
      generalize pc.enc = ce at hixi hup ht8 ht7 hcl hone
      generalize pc.free = us at hup hfl ⊢
      generalize hv3 : f 3 = w at ho
      refine nwp_then (fun f A => ∃ b5, (A1.le A ∧ f 3 = w ∧ OutI A1 A w ls) ∧ f 13 = fv ∧ f 14 = .int .i64 funs.length ∧ f 15 = .int .i64 i ∧ f 5 = .ptr b5 0 ∧ A b5 = some (.cells (.int .i64 pn :: ce.cells))) ?_ ?_
      · simp only [n_flatten_Captures_r6, h13, h15, hixi, ht8, hcl, hone, go_sem, Nat.reduceEqDiff, Nat.reduceAdd, Nat.reduceLeDiff, ↓reduceIte, eq_self]
        intro b5 hb5
        exact Here.mk ⟨b5, ⟨hle.set hb5, hv3, ho.fresh hb5⟩, h13, h14, h15, rfl, Heap.set_same _ _ _⟩
      clear hle ho h13 h14 h15 hv3
      rintro f A ⟨b5, ⟨hle, h3, ho⟩, h13, h14, h15, h5, hb5⟩
      refine nwp_then (fun f A => (A1.le A ∧ f 3 = w ∧ OutI A1 A w ls) ∧ f 13 = fv ∧ f 14 = .int .i64 funs.length ∧ f 15 = .int .i64 i ∧ f 5 = .ptr b5 0 ∧ A b5 = some (.cells (.int .i64 pn :: ce.cells)) ∧ f 6 = .int .i64 0) ?_ ?_
      · simp only [n_flatten_Captures_r7, go_sem]
        exact Here.mk ⟨⟨hle, h3, ho⟩, h13, h14, h15, h5, hb5, rfl⟩
      clear hle h3 ho h13 h14 h15 h5 hb5
      rintro f A ⟨⟨hle, h3, ho⟩, h13, h14, h15, h5, hb5, h6⟩
      refine nwp_cut (fun f A => (A1.le A ∧ f 3 = w ∧ OutI A1 A w ls) ∧ f 13 = fv ∧ f 14 = .int .i64 funs.length ∧ f 15 = .int .i64 i ∧ f 6 = .int .i64 ((us.filter fun v => decide (0 < v)).length : Nat)) ?_ ?_
      · refine nwp_then (fun f A => ((A1.le A ∧ f 3 = w ∧ OutI A1 A w ls) ∧ f 13 = fv ∧ f 14 = .int .i64 funs.length ∧ f 15 = .int .i64 i) ∧ f 6 = .int .i64 0 ∧ f 21 = encSl true 1 (us.map encInt) ∧ f 22 = .int .i64 us.length ∧ f 23 = .int .i64 0) ?_ ?_
        · simp only [n_flatten_Captures_r8, h5, hb5, ht7, go_sem, ↓reduceIte, eq_self]
          refine hup.call ?_
          try simp only [lenAV_encSl, List.length_map, go_sem]
          exact Here.mk ⟨⟨⟨hle, h3, ho⟩, h13, h14, h15⟩, h6, rfl, rfl, rfl⟩
        clear hle h3 ho h13 h14 h15 h5 hb5 h6
        rintro f A ⟨⟨⟨hle, h3, ho⟩, h13, h14, h15⟩, h6, h21, h22, h23⟩
        refine nwp_for (ti := 23) (tn := 22) (tt := 24) (tw := 31) (id := 2) (id2 := 3) us.length (by omega)
          (fun j f A => ((A1.le A ∧ f 3 = w ∧ OutI A1 A w ls) ∧ f 13 = fv ∧ f 14 = .int .i64 funs.length ∧ f 15 = .int .i64 i) ∧ f 6 = .int .i64 (((us.take j).filter fun v => decide (0 < v)).length : Nat) ∧ f 21 = encSl true 1 (us.map encInt)) (by decide) ?_ h23 h22 ⟨⟨⟨hle, h3, ho⟩, h13, h14, h15⟩, h6, h21⟩ ?_ ?_
        · rintro j f A d v hd ⟨⟨⟨q1, q2, q3⟩, q4, q5, q6⟩, q7, q8⟩
          rcases hd with rfl | rfl | rfl
          all_goals exact ⟨⟨⟨q1, q2, q3⟩, q4, q5, q6⟩, q7, q8⟩
        · rintro j f A hj ⟨⟨⟨hle, h3, ho⟩, h13, h14, h15⟩, h6, h21⟩ h23 h22
          have hixj := indexAddr_encSl true 1 (us.map encInt) j (encInt us[j]) (by rw [List.getElem?_map, List.getElem?_eq_getElem hj]; rfl)
          have hnj : ((us.take (j + 1)).filter fun v => decide (0 < v)).length = ((us.take j).filter fun v => decide (0 < v)).length + if 0 < us[j] then 1 else 0 := by
            rw [List.take_add_one, List.getElem?_eq_getElem hj, List.filter_append, List.length_append]
            by_cases h : 0 < us[j] <;> simp [h]
          have hcj : ((us.take j).filter fun v => decide (0 < v)).length ≤ j := by
            refine Nat.le_trans (List.length_filter_le _ _) ?_
            rw [List.length_take]
            omega
          simp only [encInt, AV.cells] at hixj
          rw [hnj]
          generalize us[j] = z at hixj ⊢
          generalize ((us.take j).filter fun v => decide (0 < v)).length = cn at h6 hcj ⊢
          refine nwp_then (fun f A => ((A1.le A ∧ f 3 = w ∧ OutI A1 A w ls) ∧ f 13 = fv ∧ f 14 = .int .i64 funs.length ∧ f 15 = .int .i64 i) ∧ f 6 = .int .i64 cn ∧ f 21 = encSl true 1 (us.map encInt) ∧ f 22 = .int .i64 us.length ∧ f 23 = .int .i64 j ∧ f 8 = .int .i64 z) ?_ ?_
          · simp only [n_flatten_Captures_r10, h21, h23, hixj, go_sem, ↓reduceIte, eq_self]
            exact Here.mk ⟨⟨⟨hle, h3, ho⟩, h13, h14, h15⟩, h6, h21, h22, h23, rfl⟩
          clear hle h3 ho h13 h14 h15 h6 h21 h22 h23
          rintro f A ⟨⟨⟨hle, h3, ho⟩, h13, h14, h15⟩, h6, h21, h22, h23, h8⟩
          refine nwp_then (fun f A => (((A1.le A ∧ f 3 = w ∧ OutI A1 A w ls) ∧ f 13 = fv ∧ f 14 = .int .i64 funs.length ∧ f 15 = .int .i64 i) ∧ f 6 = .int .i64 cn ∧ f 21 = encSl true 1 (us.map encInt) ∧ f 22 = .int .i64 us.length ∧ f 23 = .int .i64 j) ∧ f 28 = .bool (decide (0 < z))) ?_ ?_
          · simp only [n_flatten_Captures_r11, h8, go_sem, ↓reduceIte, eq_self]
            exact Here.mk ⟨⟨⟨⟨hle, h3, ho⟩, h13, h14, h15⟩, h6, h21, h22, h23⟩, rfl⟩
          clear hle h3 ho h13 h14 h15 h6 h21 h22 h23 h8
          rintro f A ⟨⟨⟨⟨hle, h3, ho⟩, h13, h14, h15⟩, h6, h21, h22, h23⟩, ht⟩
          refine nwp_test _ ht (fun hc => ?_) fun hc => ?_
          · rw [if_pos (of_decide_eq_true hc)]
            refine nwp_last (fun f A => (((A1.le A ∧ f 3 = w ∧ OutI A1 A w ls) ∧ f 13 = fv ∧ f 14 = .int .i64 funs.length ∧ f 15 = .int .i64 i) ∧ f 6 = .int .i64 ((cn + 1 : Nat) : Int) ∧ f 21 = encSl true 1 (us.map encInt)) ∧ f 23 = .int .i64 j ∧ f 22 = .int .i64 us.length) ?_ fun f A h => h
            have hw : IntKind.i64.wrap ((cn : Int) + 1) = ((cn + 1 : Nat) : Int) := by rw [i64w (by omega) (by omega)]; rfl
            simp only [n_flatten_Captures_r12, h6, hw, go_sem, ↓reduceIte, eq_self]
            exact Here.mk ⟨⟨⟨⟨hle, h3, ho⟩, h13, h14, h15⟩, rfl, h21⟩, h23, h22⟩
          · rw [if_neg (of_decide_eq_false hc)]
            exact ⟨⟨⟨⟨hle, h3, ho⟩, h13, h14, h15⟩, h6, h21⟩, h23, h22⟩
        · rintro f A ⟨⟨⟨hle, h3, ho⟩, h13, h14, h15⟩, h6, h21⟩
          rw [List.take_of_length_le (Nat.le_refl _)] at h6
          exact ⟨⟨hle, h3, ho⟩, h13, h14, h15, h6⟩
      clear hle h3 ho h13 h14 h15 h5 hb5 h6
      rintro f A ⟨⟨hle, h3, ho⟩, h13, h14, h15, h6⟩
      refine nwp_last (fun f A => ((A1.le A ∧ OutI A1 A (f 3) (ls ++ [(((us.filter fun v => decide (0 < v)).length : Nat) : Int)])) ∧ f 13 = fv) ∧ f 15 = .int .i64 i ∧ f 14 = .int .i64 funs.length) ?_ fun f A h => h
      simp only [n_flatten_Captures_r15, h3, h6, go_sem, Nat.reduceEqDiff, Nat.reduceLeDiff, ↓reduceIte, eq_self]
      intro b2 hb2
      refine append_ints (m := [(((us.filter fun v => decide (0 < v)).length : Nat) : Int)]) (ho.fresh hb2) (hle.set hb2) (src_one _ _ _) (by simp [hlm]; omega) fun v' A' ho' hle' _ => ?_
      try simp only [go_sem, Nat.reduceEqDiff, Nat.reduceAdd, Nat.reduceSub, Nat.reduceLeDiff, Nat.reduceLT, Nat.reduceMul, Int.reduceEq, Int.reduceLT, Int.reduceLE, Int.reduceNeg, Int.reduceToNat, Int.reduceAdd, Int.reduceSub, Int.cast_ofNat_Int, Int.cast_ofNat_Int, reduceCtorEq, ↓reduceIte, Bool.false_eq_true, decide_true, decide_false, eq_self, Bool.not_true, Bool.not_false]
      exact Here.mk ⟨⟨⟨hle', ho'⟩, h13⟩, h15, h14⟩
    · rintro f A ⟨⟨hle, ho⟩, h13⟩
      rw [List.take_of_length_le (Nat.le_refl _), hO] at ho
      exact ⟨hle, ho⟩
  clear hle h1 ho
  rintro f A ⟨hle, ho⟩
  refine nwp_then (fun f A => A1.le A ∧ OutI A1 A (f 2) O) ?_ fun f A ⟨h1, h2⟩ => ret_out rfl (h2.lower hle01) (hle01.trans h1)
  simp only [n_flatten_Captures_r18, go_sem, ↓reduceIte, eq_self]
  exact Here.mk ⟨hle, ho⟩
end Go.NL

set_option linter.unusedVariables false

set_option maxRecDepth 10000
namespace Go.NL
open Go.Proofs
variable {nf : Bool}
def coresA (n : Int) (a : Atom) : Int := IntKind.i64.wrap (n + IntKind.i64.wrap ((a.s.length : Int).tdiv 100))
mutual
/-- What gimletkit.cores tells. -/
def Core.cores : Core → Int → Int
  | .mk k x n s na a nt t nl l, most => Core.coresL l most (a.foldl coresA (IntKind.i64.wrap (IntKind.i64.wrap (IntKind.i64.wrap (1 + a.length) + t.length) + IntKind.i64.wrap ((s.length : Int).tdiv 100))))
def Core.coresL : List Core → Int → Int → Int
  | [], _, n => n
  | c :: cs, most, n => if n ≤ most then Core.coresL cs most (IntKind.i64.wrap (n + c.cores (IntKind.i64.wrap (most - n)))) else n
end
theorem coresL_stop {l : List Core} {most n : Int} (h : ¬ n ≤ most) : Core.coresL l most n = n := by
  cases l with
  | nil => simp [Core.coresL]
  | cons c l => simp [Core.coresL, h]
set_option maxHeartbeats 1000000 in
theorem cores_spec : ∀ (N : Nat) (c : Core), c.size ≤ N → c.small big = true → ∀ most : Int, NPure Try.prog F_gimletkit_cores [c.enc, .int .i64 most] (.int .i64 (c.cores most)) := by
  have hbig : big = 1099511627776 := rfl
  intro N
  induction N with
  | zero => intro c hc; cases c; simp [Core.size] at hc
  | succ N ih =>
    intro c hc hsm most
    refine NPure.walk c_gimletkit_cores (Nat.le_of_ble_eq_true rfl) fun A0 => ?_
    have hone := c.one_enc
    obtain ⟨k, x, n, s, na, a, nt, t, nl, l⟩ := c
    have hl : Core.sizes l ≤ N := by simp only [Core.size] at hc; omega
    simp only [Core.small, Bool.and_eq_true, decide_eq_true_eq] at hsm
    obtain ⟨⟨⟨sa, st⟩, sl⟩, sls⟩ := hsm
    have hC : (Core.mk k x n s na a nt t nl l).enc.cells = [.int .i64 k, .int .i64 x, .int .i64 n, .str s, encSl na 3 (a.map Atom.enc), encSl nt 1 (t.map encInt), encSl nl 7 (l.map Core.enc)] := by simp only [Core.enc, encsL, AV.cells]
    rw [hC] at hone
    rw [Core.cores]
    generalize (Core.mk k x n s na a nt t nl l).enc = ce at hC ⊢
    have hsub : ∀ y ∈ l, ∀ most : Int, NPure Try.prog F_gimletkit_cores [y.enc, .int .i64 most] (.int .i64 (y.cores most)) := fun y hy => ih y (Nat.le_trans (Core.size_mem hy) hl) (Core.smalls_mem sls y hy)
    clear ih
    have hquo : ∀ m : Nat, binAV .quo (some .int) (.int .i64 m) (.int .i64 100) = some (.int .i64 (IntKind.i64.wrap ((m : Int).tdiv 100))) := fun m => rfl
    generalize hb0 : IntKind.i64.wrap (IntKind.i64.wrap (IntKind.i64.wrap (1 + a.length) + t.length) + IntKind.i64.wrap ((s.length : Int).tdiv 100)) = n0
    simp only [n_gimletkit_cores]
    refine nwp_then (fun f A => ∃ b, A0.le A ∧ f 1 = .int .i64 most ∧ f 2 = .ptr b 0 ∧ A b = some (.cells [.int .i64 k, .int .i64 x, .int .i64 n, .str s, encSl na 3 (a.map Atom.enc), encSl nt 1 (t.map encInt), encSl nl 7 (l.map Core.enc)])) ?_ ?_
    · simp only [n_gimletkit_cores_r0, hC, hone, go_sem, eq_self]
      intro b hb
      exact Here.mk ⟨b, (Heap.le.refl _).set hb, rfl, rfl, Heap.set_same _ _ _⟩
    rintro f A ⟨b, hle, h1, h2, hb⟩
    clear hC hone
    refine nwp_then (fun f A => (A0.le A ∧ f 1 = .int .i64 most ∧ f 2 = .ptr b 0 ∧ A b = some (.cells [.int .i64 k, .int .i64 x, .int .i64 n, .str s, encSl na 3 (a.map Atom.enc), encSl nt 1 (t.map encInt), encSl nl 7 (l.map Core.enc)])) ∧ f 5 = .int .i64 n0) ?_ ?_
    · simp only [n_gimletkit_cores_r1, h2, hb, lenAV_encSl, List.length_map, hquo, hb0, go_sem, Nat.reduceEqDiff, ↓reduceIte, eq_self]
      exact Here.mk ⟨⟨hle, h1, h2, hb⟩, rfl⟩
    clear hle h1 h2 hb hb0
    rintro f A ⟨⟨hle, h1, h2, hb⟩, h5⟩
    refine nwp_cut (fun f A => (A0.le A ∧ f 1 = .int .i64 most ∧ f 2 = .ptr b 0 ∧ A b = some (.cells [.int .i64 k, .int .i64 x, .int .i64 n, .str s, encSl na 3 (a.map Atom.enc), encSl nt 1 (t.map encInt), encSl nl 7 (l.map Core.enc)])) ∧ f 5 = .int .i64 (a.foldl coresA n0)) ?_ ?_
    · refine nwp_then (fun f A => (A0.le A ∧ f 1 = .int .i64 most ∧ f 2 = .ptr b 0 ∧ A b = some (.cells [.int .i64 k, .int .i64 x, .int .i64 n, .str s, encSl na 3 (a.map Atom.enc), encSl nt 1 (t.map encInt), encSl nl 7 (l.map Core.enc)])) ∧ f 5 = .int .i64 n0 ∧ f 6 = .int .i64 0) ?_ ?_
      · simp only [n_gimletkit_cores_r2, go_sem]
        exact Here.mk ⟨⟨hle, h1, h2, hb⟩, h5, rfl⟩
      clear hle h1 h2 hb h5
      rintro f A ⟨⟨hle, h1, h2, hb⟩, h5, h6⟩
      refine nwp_while (t := 25) (id := 0) (id2 := 1) a.length (fun i f A => i ≤ a.length ∧ (A0.le A ∧ f 1 = .int .i64 most ∧ f 2 = .ptr b 0 ∧ A b = some (.cells [.int .i64 k, .int .i64 x, .int .i64 n, .str s, encSl na 3 (a.map Atom.enc), encSl nt 1 (t.map encInt), encSl nl 7 (l.map Core.enc)])) ∧ f 5 = .int .i64 ((a.take i).foldl coresA n0) ∧ f 6 = .int .i64 i)
        (fun i f A => (A0.le A ∧ f 1 = .int .i64 most ∧ f 2 = .ptr b 0 ∧ A b = some (.cells [.int .i64 k, .int .i64 x, .int .i64 n, .str s, encSl na 3 (a.map Atom.enc), encSl nt 1 (t.map encInt), encSl nl 7 (l.map Core.enc)])) ∧ f 5 = .int .i64 ((a.take i).foldl coresA n0) ∧ f 6 = .int .i64 i)
        (fun i f A => (A0.le A ∧ f 1 = .int .i64 most ∧ f 2 = .ptr b 0 ∧ A b = some (.cells [.int .i64 k, .int .i64 x, .int .i64 n, .str s, encSl na 3 (a.map Atom.enc), encSl nt 1 (t.map encInt), encSl nl 7 (l.map Core.enc)])) ∧ f 5 = .int .i64 ((a.take (i + 1)).foldl coresA n0) ∧ f 6 = .int .i64 i) ⟨Nat.zero_le _, ⟨hle, h1, h2, hb⟩, h5, h6⟩ ?_ ?_ ?_
      · rintro i f A ⟨hi, ⟨hle, h1, h2, hb⟩, h5, h6⟩
        simp only [n_gimletkit_cores_r3, h2, h6, hb, lenAV_encSl, List.length_map, lt_dec, go_sem, Nat.reduceEqDiff, ↓reduceIte, eq_self]
        refine Here.mk ⟨_, rfl, fun hd => ⟨of_decide_eq_true hd, ⟨hle, h1, h2, hb⟩, h5, h6⟩, fun hd => ⟨⟨hle, h1, h2, hb⟩, ?_⟩⟩
        have := of_decide_eq_false hd
        rw [List.take_of_length_le (by omega)] at h5
        exact h5
      · rintro i f A hi ⟨⟨hle, h1, h2, hb⟩, h5, h6⟩
        have hix := indexAddr_encSl na 3 (a.map Atom.enc) i a[i].enc (by rw [List.getElem?_map, List.getElem?_eq_getElem hi]; rfl)
        rw [foldl_take _ _ _ _ hi]
        generalize (a.take i).foldl coresA n0 = n1 at h5 ⊢
        generalize a[i] = z at hix ⊢
        obtain ⟨zk, zn, zs⟩ := z
        simp only [Atom.enc_cells] at hix
        simp only [coresA]
        refine nwp_last (fun f A => (A0.le A ∧ f 1 = .int .i64 most ∧ f 2 = .ptr b 0 ∧ A b = some (.cells [.int .i64 k, .int .i64 x, .int .i64 n, .str s, encSl na 3 (a.map Atom.enc), encSl nt 1 (t.map encInt), encSl nl 7 (l.map Core.enc)])) ∧ f 5 = .int .i64 (IntKind.i64.wrap (n1 + IntKind.i64.wrap ((zs.length : Int).tdiv 100))) ∧ f 6 = .int .i64 i) ?_ fun f A h => h
        simp only [n_gimletkit_cores_r4, h2, h5, h6, hb, hix, hquo, go_sem, Nat.reduceEqDiff, ↓reduceIte, eq_self]
        exact Here.mk ⟨⟨hle, h1, h2, hb⟩, rfl, h6⟩
      · rintro i f A hi ⟨⟨hle, h1, h2, hb⟩, h5, h6⟩
        have hw := wrap_succ hi (by omega)
        simp only [n_gimletkit_cores_r5, h6, hw, go_sem, ↓reduceIte, eq_self]
        exact Here.mk ⟨hi, ⟨hle, h1, h2, hb⟩, h5, rfl⟩
    clear hle h1 h2 hb h5
    generalize a.foldl coresA n0 = n1
    rintro f A ⟨⟨hle, h1, h2, hb⟩, h5⟩
    refine nwp_cut (fun f A => A0.le A ∧ f 5 = .int .i64 (Core.coresL l most n1)) ?_ ?_
    · refine nwp_then (fun f A => (A0.le A ∧ f 1 = .int .i64 most ∧ f 2 = .ptr b 0 ∧ A b = some (.cells [.int .i64 k, .int .i64 x, .int .i64 n, .str s, encSl na 3 (a.map Atom.enc), encSl nt 1 (t.map encInt), encSl nl 7 (l.map Core.enc)])) ∧ f 5 = .int .i64 n1 ∧ f 7 = .int .i64 0) ?_ ?_
      · simp only [n_gimletkit_cores_r7, go_sem]
        exact Here.mk ⟨⟨hle, h1, h2, hb⟩, h5, rfl⟩
      clear hle h1 h2 hb h5
      rintro f A ⟨⟨hle, h1, h2, hb⟩, h5, h7⟩
      refine nwp_while (t := 47) (id := 2) (id2 := 3) l.length (fun i f A => i ≤ l.length ∧ (A0.le A ∧ f 1 = .int .i64 most ∧ f 2 = .ptr b 0 ∧ A b = some (.cells [.int .i64 k, .int .i64 x, .int .i64 n, .str s, encSl na 3 (a.map Atom.enc), encSl nt 1 (t.map encInt), encSl nl 7 (l.map Core.enc)])) ∧ (∃ m, f 5 = .int .i64 m ∧ Core.coresL (l.drop i) most m = Core.coresL l most n1) ∧ f 7 = .int .i64 i)
        (fun i f A => (A0.le A ∧ f 1 = .int .i64 most ∧ f 2 = .ptr b 0 ∧ A b = some (.cells [.int .i64 k, .int .i64 x, .int .i64 n, .str s, encSl na 3 (a.map Atom.enc), encSl nt 1 (t.map encInt), encSl nl 7 (l.map Core.enc)])) ∧ (∃ m, f 5 = .int .i64 m ∧ m ≤ most ∧ Core.coresL (l.drop i) most m = Core.coresL l most n1) ∧ f 7 = .int .i64 i)
        (fun i f A => (A0.le A ∧ f 1 = .int .i64 most ∧ f 2 = .ptr b 0 ∧ A b = some (.cells [.int .i64 k, .int .i64 x, .int .i64 n, .str s, encSl na 3 (a.map Atom.enc), encSl nt 1 (t.map encInt), encSl nl 7 (l.map Core.enc)])) ∧ (∃ m, f 5 = .int .i64 m ∧ Core.coresL (l.drop (i + 1)) most m = Core.coresL l most n1) ∧ f 7 = .int .i64 i) ⟨Nat.zero_le _, ⟨hle, h1, h2, hb⟩, ⟨n1, h5, rfl⟩, h7⟩ ?_ ?_ ?_
      · rintro i f A ⟨hi, ⟨hle, h1, h2, hb⟩, ⟨m, h5, hm⟩, h7⟩
        by_cases hil : i < l.length
        · have d0 : decide (i < l.length) = true := by simpa using hil
          simp only [n_gimletkit_cores_r8, h1, h2, h5, h7, hb, lenAV_encSl, List.length_map, lt_dec, d0, go_sem, Nat.reduceEqDiff, ↓reduceIte, eq_self]
          refine Here.mk ⟨_, rfl, fun hd => ⟨hil, ⟨hle, h1, h2, hb⟩, ⟨m, h5, of_decide_eq_true hd, hm⟩, h7⟩, fun hd => ⟨hle, ?_⟩⟩
          have e : f 5 = .int .i64 (Core.coresL l most n1) := by rw [h5, ← hm, coresL_stop (of_decide_eq_false hd)]
          exact e
        · have d0 : decide (i < l.length) = false := by simpa using hil
          simp only [n_gimletkit_cores_r8, h2, h7, hb, lenAV_encSl, List.length_map, lt_dec, d0, go_sem, Nat.reduceEqDiff, ↓reduceIte, Bool.false_eq_true, eq_self]
          refine Here.mk ⟨_, rfl, fun hd => (by cases hd), fun _ => ⟨hle, ?_⟩⟩
          have e : f 5 = .int .i64 (Core.coresL l most n1) := by
            rw [h5, ← hm, List.drop_of_length_le (by omega)]
            simp [Core.coresL]
          exact e
      · rintro i f A hi ⟨⟨hle, h1, h2, hb⟩, ⟨m, h5, hmm, hm⟩, h7⟩
        have hix := indexAddr_encSl nl 7 (l.map Core.enc) i l[i].enc (by rw [List.getElem?_map, List.getElem?_eq_getElem hi]; rfl)
        have htey := l[i].take_enc
        have hsy := hsub l[i] (List.getElem_mem hi) (IntKind.i64.wrap (most - m))
        rw [List.drop_eq_getElem_cons hi, Core.coresL, if_pos hmm] at hm
        generalize l[i] = y at hix htey hsy hm
        refine nwp_last (fun f A => (A0.le A ∧ f 1 = .int .i64 most ∧ f 2 = .ptr b 0 ∧ A b = some (.cells [.int .i64 k, .int .i64 x, .int .i64 n, .str s, encSl na 3 (a.map Atom.enc), encSl nt 1 (t.map encInt), encSl nl 7 (l.map Core.enc)])) ∧ (∃ m, f 5 = .int .i64 m ∧ Core.coresL (l.drop (i + 1)) most m = Core.coresL l most n1) ∧ f 7 = .int .i64 i) ?_ fun f A h => h
        simp only [n_gimletkit_cores_r9, h1, h2, h5, h7, hb, hix, htey, go_sem, Nat.reduceEqDiff, ↓reduceIte, eq_self]
        refine hsy.call ?_
        try simp only [go_sem, ↓reduceIte, eq_self]
        exact Here.mk ⟨⟨hle, h1, h2, hb⟩, ⟨_, rfl, hm⟩, h7⟩
      · rintro i f A hi ⟨⟨hle, h1, h2, hb⟩, h5, h7⟩
        have hw := wrap_succ hi (by omega)
        simp only [n_gimletkit_cores_r10, h7, hw, go_sem, ↓reduceIte, eq_self]
        exact Here.mk ⟨hi, ⟨hle, h1, h2, hb⟩, h5, rfl⟩
    clear hle h1 h2 hb h5
    rintro f A ⟨hle, h5⟩
    simp only [n_gimletkit_cores_r12, h5, hle, go_sem, ↓reduceIte, eq_self]
def largeL : List FlatF → Int → Int → Int
  | [], _, n => n
  | p :: ps, most, n => if n ≤ most then largeL ps most (IntKind.i64.wrap (n + p.2.cores (IntKind.i64.wrap (most - n)))) else n
theorem largeL_stop {l : List FlatF} {most n : Int} (h : ¬ n ≤ most) : largeL l most n = n := by
  cases l with
  | nil => rfl
  | cons c l => simp [largeL, h]
/-- Is a flat program too large to be gone through? -/
def flatLarge (funs : List FlatF) (main : Core) (most : Int) : Bool := decide (most < largeL funs most (main.cores most))
set_option maxHeartbeats 1000000 in
theorem LargeFlat_spec (funs : List FlatF) (main : Core) (hf : funs.length ≤ big) (hm : main.small big = true) (hfs : ∀ p ∈ funs, p.2.small big = true) (most : Int) : NPure Try.prog F_gimletkit_LargeFlat [encFlatN nf funs main, .int .i64 most] (.bool (flatLarge funs main most)) := by
  have hbig : big = 1099511627776 := rfl
  refine NPure.walk c_gimletkit_LargeFlat (Nat.le_of_ble_eq_true rfl) fun A0 => ?_
  have hco : ∀ (c : Core), c.small big = true → ∀ most : Int, NPure Try.prog F_gimletkit_cores [c.enc, .int .i64 most] (.int .i64 (c.cores most)) := fun c hc most => cores_spec c.size c (Nat.le_refl _) hc most
  have hof := oneFlatN nf funs main
  have hfc := flatN_cells nf funs main
  have htm := take1 (encSl nf 8 (encF funs)) main
  have hlf : ∀ B, lenAV B .slice (encSl nf 8 (encF funs)) = some funs.length := fun B => by rw [lenAV_encSl, encF_len]
  have hix : ∀ i, (h : i < funs.length) → indexAddrAV 8 none (encSl nf 8 (encF funs)) (i : Int) = some (.iptr (.int .i64 funs[i].1 :: funs[i].2.enc.cells) 0) := fun i h => indexAddr_encSl nf 8 (encF funs) i (FlatF.enc funs[i]) (by simp [encF, List.getElem?_eq_getElem h])
  have hcm := hco main hm most
  simp only [flatLarge]
  generalize main.cores most = n1 at hcm ⊢
  generalize encFlatN nf funs main = fl at hof hfc ⊢
  generalize encSl nf 8 (encF funs) = fv at hfc htm hlf hix
  simp only [n_gimletkit_LargeFlat]
  refine nwp_then (fun f A => ∃ b2, A0.le A ∧ f 1 = .int .i64 most ∧ f 2 = .ptr b2 0 ∧ A b2 = some (.cells (fv :: main.enc.cells))) ?_ ?_
  · simp only [n_gimletkit_LargeFlat_r0, hof, go_sem, eq_self]
    intro b hb
    exact Here.mk ⟨b, (Heap.le.refl _).set hb, rfl, rfl, by rw [← hfc]; exact Heap.set_same _ _ _⟩
  rintro f A ⟨b2, hle, h1, h2, hb⟩
  refine nwp_then (fun f A => (A0.le A ∧ f 1 = .int .i64 most ∧ f 2 = .ptr b2 0 ∧ A b2 = some (.cells (fv :: main.enc.cells))) ∧ f 5 = .int .i64 n1) ?_ ?_
  · simp only [n_gimletkit_LargeFlat_r1, h1, h2, hb, htm, go_sem, Nat.reduceEqDiff, ↓reduceIte, eq_self]
    refine hcm.call ?_
    try simp only [go_sem, Nat.reduceEqDiff, Nat.reduceAdd, Nat.reduceSub, Nat.reduceLeDiff, Nat.reduceLT, Nat.reduceMul, Int.reduceEq, Int.reduceLT, Int.reduceLE, Int.reduceNeg, Int.reduceToNat, Int.reduceAdd, Int.reduceSub, Int.cast_ofNat_Int, Int.cast_ofNat_Int, reduceCtorEq, ↓reduceIte, Bool.false_eq_true, decide_true, decide_false, eq_self, Bool.not_true, Bool.not_false]
    exact Here.mk ⟨⟨hle, h1, h2, hb⟩, rfl⟩
  clear hle h1 h2 hb
  rintro f A ⟨⟨hle, h1, h2, hb⟩, h5⟩
  refine nwp_cut (fun f A => A0.le A ∧ f 1 = .int .i64 most ∧ f 5 = .int .i64 (largeL funs most n1)) ?_ ?_
  · refine nwp_then (fun f A => (A0.le A ∧ f 1 = .int .i64 most ∧ f 2 = .ptr b2 0 ∧ A b2 = some (.cells (fv :: main.enc.cells))) ∧ f 5 = .int .i64 n1 ∧ f 6 = .int .i64 0) ?_ ?_
    · simp only [n_gimletkit_LargeFlat_r2, go_sem]
      exact Here.mk ⟨⟨hle, h1, h2, hb⟩, h5, rfl⟩
    clear hle h1 h2 hb h5
    rintro f A ⟨⟨hle, h1, h2, hb⟩, h5, h6⟩
    refine nwp_while (t := 20) (id := 0) (id2 := 1) funs.length (fun i f A => i ≤ funs.length ∧ (A0.le A ∧ f 1 = .int .i64 most ∧ f 2 = .ptr b2 0 ∧ A b2 = some (.cells (fv :: main.enc.cells))) ∧ (∃ m, f 5 = .int .i64 m ∧ largeL (funs.drop i) most m = largeL funs most n1) ∧ f 6 = .int .i64 i)
      (fun i f A => (A0.le A ∧ f 1 = .int .i64 most ∧ f 2 = .ptr b2 0 ∧ A b2 = some (.cells (fv :: main.enc.cells))) ∧ (∃ m, f 5 = .int .i64 m ∧ m ≤ most ∧ largeL (funs.drop i) most m = largeL funs most n1) ∧ f 6 = .int .i64 i)
      (fun i f A => (A0.le A ∧ f 1 = .int .i64 most ∧ f 2 = .ptr b2 0 ∧ A b2 = some (.cells (fv :: main.enc.cells))) ∧ (∃ m, f 5 = .int .i64 m ∧ largeL (funs.drop (i + 1)) most m = largeL funs most n1) ∧ f 6 = .int .i64 i) ⟨Nat.zero_le _, ⟨hle, h1, h2, hb⟩, ⟨n1, h5, rfl⟩, h6⟩ ?_ ?_ ?_
    · rintro i f A ⟨hi, ⟨hle, h1, h2, hb⟩, ⟨m, h5, hm⟩, h6⟩
      by_cases hil : i < funs.length
      · have d0 : decide (i < funs.length) = true := by simpa using hil
        simp only [n_gimletkit_LargeFlat_r3, h1, h2, h5, h6, hb, hlf, lt_dec, d0, go_sem, Nat.reduceEqDiff, ↓reduceIte, eq_self]
        refine Here.mk ⟨_, rfl, fun hd => ⟨hil, ⟨hle, h1, h2, hb⟩, ⟨m, h5, of_decide_eq_true hd, hm⟩, h6⟩, fun hd => ⟨hle, h1, ?_⟩⟩
        have e : f 5 = .int .i64 (largeL funs most n1) := by rw [h5, ← hm, largeL_stop (of_decide_eq_false hd)]
        exact e
      · have d0 : decide (i < funs.length) = false := by simpa using hil
        simp only [n_gimletkit_LargeFlat_r3, h2, h6, hb, hlf, lt_dec, d0, go_sem, Nat.reduceEqDiff, ↓reduceIte, Bool.false_eq_true, eq_self]
        refine Here.mk ⟨_, rfl, fun hd => (by cases hd), fun _ => ⟨hle, h1, ?_⟩⟩
        have e : f 5 = .int .i64 (largeL funs most n1) := by
          rw [h5, ← hm, List.drop_of_length_le (by omega)]
          rfl
        exact e
    · rintro i f A hi ⟨⟨hle, h1, h2, hb⟩, ⟨m, h5, hmm, hm⟩, h6⟩
      have hixi := hix i hi
      have hsy := hco funs[i].2 (hfs _ (List.getElem_mem hi)) (IntKind.i64.wrap (most - m))
      rw [List.drop_eq_getElem_cons hi, largeL, if_pos hmm] at hm
      generalize funs[i] = p at hixi hsy hm
      obtain ⟨pn, pc⟩ := p
      simp only at hixi hsy hm
      have ht7 := take1 (.int .i64 pn) pc
      refine nwp_last (fun f A => (A0.le A ∧ f 1 = .int .i64 most ∧ f 2 = .ptr b2 0 ∧ A b2 = some (.cells (fv :: main.enc.cells))) ∧ (∃ m, f 5 = .int .i64 m ∧ largeL (funs.drop (i + 1)) most m = largeL funs most n1) ∧ f 6 = .int .i64 i) ?_ fun f A h => h
      simp only [n_gimletkit_LargeFlat_r4, h1, h2, h5, h6, hb, hixi, ht7, go_sem, Nat.reduceEqDiff, ↓reduceIte, eq_self]
      refine hsy.call ?_
      try simp only [go_sem, ↓reduceIte, eq_self]
      exact Here.mk ⟨⟨hle, h1, h2, hb⟩, ⟨_, rfl, hm⟩, h6⟩
    · rintro i f A hi ⟨⟨hle, h1, h2, hb⟩, h5, h6⟩
      have hw := wrap_succ hi (by omega)
      simp only [n_gimletkit_LargeFlat_r5, h6, hw, go_sem, ↓reduceIte, eq_self]
      exact Here.mk ⟨hi, ⟨hle, h1, h2, hb⟩, h5, rfl⟩
  clear hle h1 h2 hb h5
  rintro f A ⟨hle, h1, h5⟩
  simp only [n_gimletkit_LargeFlat_r7, h1, h5, hle, go_sem, Nat.reduceEqDiff, ↓reduceIte, eq_self]
end Go.NL
