import Derived.Test.YtdeboephmbaihaaMC3
import Derived.Test.YtdeboephmbaihaaMC2
import Derived.Test.YtdeboephmbaihaaXAC
import Derived.Test.YtdeboephmbaihaaProg
set_option linter.unusedVariables false

set_option maxRecDepth 10000
namespace Go.NL
open Go.Proofs
/-- A block that is mine may be held fast. -/
theorem PartJ.adopt {B : Heap} {bm bf mt : Nat} {s : MS} {A : Heap} (h : PartJ B bm bf mt s A) {c : Nat} {cs : List AV} (hc : A c = some (.cells cs)) (hm : Mine cs) : ∃ B2 : Heap, B.le B2 ∧ B2 c = some (.cells cs) ∧ PartJ B2 bm bf mt s A ∧ ∀ d, d ≠ c → B2 d = B d := by
  obtain ⟨B', hB', hle', hk⟩ := h.rebase
  have hBc := hk c cs hc hm
  have hn : ∀ d, B' d = none → d ≠ c := fun d hd e => by subst e; rw [hBc] at hd; cases hd
  refine ⟨fun d => if d = c then some (.cells cs) else B d, ⟨fun d y hd => ?_⟩, by simp, ?_, fun d hd => by simp [hd]⟩
  · by_cases e : d = c
    · subst e
      have := h.mj.le.get _ _ hd
      rw [hc] at this
      simp [this]
    · simp [e, hd]
  · have hl2 : (Heap.le (fun d => if d = c then some (.cells cs) else B d) B') := ⟨fun d y hd => by
      by_cases e : d = c
      · simp only [e, if_true] at hd
        rw [e, hBc, hd]
      · simp only [e, if_false] at hd
        exact hle'.get d y hd⟩
    exact hB'.base hl2
theorem OutI.adopt {B : Heap} {bm bf mt : Nat} {s : MS} {A : Heap} (h : PartJ B bm bf mt s A) {v : AV} {l : List Int} (ho : OutI B A v l) {b17 : Nat} {x y z : AV} {str : List UInt8} {r : List AV} (h17 : A b17 = some (.cells (x :: y :: z :: .str str :: r))) (h170 : B b17 = none) :
    ∃ B2 : Heap, B.le B2 ∧ PartJ B2 bm bf mt s A ∧ IntsAt B2 v l ∧ B2 b17 = none := by
  have hne := ho.ne7 h17
  rcases ho with ⟨rfl, rfl⟩ | ⟨b, rfl, hb, h0, hn⟩
  · exact ⟨B, .refl _, h, .inl ⟨true, rfl⟩, h170⟩
  · obtain ⟨B2, q1, q2, q3, q4⟩ := h.adopt hb (ints_mine hn)
    exact ⟨B2, q1, q3, .inr ⟨b, _, rfl, q2⟩, by rw [q4 _ (fun e => hne _ _ _ _ _ rfl e.symm)]; exact h170⟩
end Go.NL

set_option linter.unusedVariables false

set_option maxRecDepth 10000
namespace Go.NL
open Go.Proofs
end Go.NL

set_option linter.unusedVariables false

set_option maxRecDepth 10000
namespace Go.NL
open Go.Proofs
end Go.NL

set_option linter.unusedVariables false

set_option maxRecDepth 10000
namespace Go.NL
open Go.Proofs
end Go.NL

set_option linter.unusedVariables false

set_option maxRecDepth 10000
namespace Go.NL
open Go.Proofs
/-- A flat program: its functions, its main part. -/
def encFlat (funs : List FlatF) (main : Core) : AV := .agg (encSl true 8 (encF funs) :: main.enc.cells)
/-- What Convert tells: functions, main part, why not. -/
def Core.convert (c : Core) : List FlatF × Core × Int :=
  if c.check ≠ 0 then ([], Core.zero, c.check)
  else if c.wide = true ∨ 16384 < c.funs then ([], Core.zero, 3)
  else ((partW c.size c ⟨[], [], 0⟩).2.funs, (partW c.size c ⟨[], [], 0⟩).1, 0)
def zero8 : List AV := [.nilslice, .int .i64 0, .int .i64 0, .int .i64 0, .str [], .nilslice, .nilslice, .nilslice]
theorem flat_cells (funs : List FlatF) (main : Core) : (encFlat funs main).cells = encSl true 8 (encF funs) :: main.enc.cells := rfl
theorem take8 (v : AV) (main : Core) : takeAV (some 8) (v :: main.enc.cells) 0 = some (.agg (v :: main.enc.cells)) := by
  obtain ⟨k, x, n, s, na, a, nt, t, nl, l⟩ := main
  rfl
end Go.NL

set_option linter.unusedVariables false

set_option maxRecDepth 10000
namespace Go.NL
open Go.Proofs
/-- Which are seen; is one twice, or one of those from outside? -/
def there1 (free : Int) (fn : Bool) (s : List (Int × Bool) × Bool) (n : Int) : List (Int × Bool) × Bool := (mput s.1 n true, s.2 || ((mget s.1 n).getD false || (fn && decide (n ≤ free))))
def there2 (free : Int) (fn : Bool) (b : Bool) (n : Int) : Bool := b || (!fn || decide (n > free))
def Core.twice (c : Core) (free : Int) (fn : Bool) : Bool := (c.order.foldl (there1 free fn) ([], false)).2
def Core.missing (c : Core) (free : Int) (fn : Bool) : Bool := c.free.foldl (there2 free fn) false
set_option maxHeartbeats 1000000 in
theorem there_spec (c : Core) (free : Int) (fn : Bool) (hg : c.good big = true) (hlen : c.order.length ≤ big) (hv : c.vars = true) (hat : c.atoms ≤ big) : NPure Try.prog F_flatten_there [c.enc, .int .i64 free, .bool fn] (.tuple [.bool (c.twice free fn), .bool (c.missing free fn)]) := by
  have hbig : big = 1099511627776 := rfl
  refine NPure.walk c_flatten_there (Nat.le_of_ble_eq_true rfl) fun A0 => ?_
  have hte := Core.take_enc c
  have hone := Core.one_enc c
  have hor := Order_spec c hg hlen
  have hub := Unbound_spec c hg hv hat
  have hfl := (free_range hv).2
  have h1T : ∀ l, c.order = l → (l.foldl (there1 free fn) ([], false)).2 = c.twice free fn := fun l h => by rw [← h]; rfl
  have h2T : ∀ l, c.free = l → l.foldl (there2 free fn) false = c.missing free fn := fun l h => by rw [← h]; rfl
  generalize c.twice free fn = T1 at h1T ⊢
  generalize c.missing free fn = T2 at h2T ⊢
  generalize hol : c.order = ol at hor hlen h1T
  generalize hul : c.free = ul at hub hfl h2T
  have h1T := h1T ol rfl
  have h2T := h2T ul rfl
  simp only [n_flatten_there]
  refine nwp_then (fun f A => ∃ b3, A0.le A ∧ f 1 = .int .i64 free ∧ f 2 = .bool fn ∧ f 3 = .ptr b3 0 ∧ f 6 = .bool false ∧ f 7 = .bool false ∧ A b3 = some (.cells c.enc.cells)) ?_ ?_
  · simp only [n_flatten_there_r0, go_sem, eq_self]
    intro b hb
    exact Here.mk ⟨b, (Heap.le.refl _).set hb, rfl, rfl, rfl, rfl, rfl, Heap.set_same _ _ _⟩
  rintro f A ⟨b3, hle, h1, h2, h3, h6, h7, hb3⟩
  refine nwp_then (fun f A => ∃ ms, A0.le A ∧ A0 ms = none ∧ f 1 = .int .i64 free ∧ f 2 = .bool fn ∧ f 3 = .ptr b3 0 ∧ f 6 = .bool false ∧ f 7 = .bool false ∧ f 8 = .map ms ∧ A b3 = some (.cells c.enc.cells) ∧ A ms = some (mapB AV.bool [])) ?_ ?_
  · simp only [n_flatten_there_r1, go_sem, ↓reduceIte, eq_self]
    intro ms hms
    exact Here.mk ⟨ms, hle.set hms, hle.none hms, h1, h2, h3, h6, h7, rfl, Heap.keep hb3 hms, Heap.set_same _ _ _⟩
  clear hle h1 h2 h3 h6 h7 hb3
  rintro f A ⟨ms, hle, hms0, h1, h2, h3, h6, h7, h8, hb3, hms⟩
  refine nwp_cut (fun f A => A0.le A ∧ f 1 = .int .i64 free ∧ f 2 = .bool fn ∧ f 3 = .ptr b3 0 ∧ f 6 = .bool T1 ∧ f 7 = .bool false ∧ A b3 = some (.cells c.enc.cells)) ?_ ?_
  · refine nwp_then (fun f A => A0.le A ∧ f 1 = .int .i64 free ∧ f 2 = .bool fn ∧ f 3 = .ptr b3 0 ∧ f 6 = .bool false ∧ f 7 = .bool false ∧ f 8 = .map ms ∧ A b3 = some (.cells c.enc.cells) ∧ A ms = some (mapB AV.bool []) ∧ f 15 = encSl true 1 (ol.map encInt) ∧ f 16 = .int .i64 ol.length ∧ f 17 = .int .i64 0) ?_ ?_
    · simp only [n_flatten_there_r2, h3, hb3, hte, go_sem, ↓reduceIte, eq_self]
      refine hor.call ?_
      simp only [lenAV_encSl, List.length_map, go_sem]
      exact Here.mk ⟨hle, h1, h2, h3, h6, h7, h8, hb3, hms, rfl, rfl, rfl⟩
    clear hle h1 h2 h3 h6 h7 h8 hb3 hms
    rintro f A ⟨hle, h1, h2, h3, h6, h7, h8, hb3, hms, h15, h16, h17⟩
    refine nwp_for (ti := 17) (tn := 16) (tt := 18) (tw := 34) (id := 0) (id2 := 1) ol.length (by omega) (fun i f A => A0.le A ∧ f 1 = .int .i64 free ∧ f 2 = .bool fn ∧ f 3 = .ptr b3 0 ∧ f 6 = .bool ((ol.take i).foldl (there1 free fn) ([], false)).2 ∧ f 7 = .bool false ∧ f 8 = .map ms ∧ A b3 = some (.cells c.enc.cells) ∧
      A ms = some (mapB AV.bool ((ol.take i).foldl (there1 free fn) ([], false)).1) ∧ f 15 = encSl true 1 (ol.map encInt)) (by decide) ?_ h17 h16 ⟨hle, h1, h2, h3, h6, h7, h8, hb3, hms, h15⟩ ?_ ?_
    · rintro i f A d v hd ⟨q1, q2, q3, q4, q5, q6, q7, q8, q9, q10⟩
      rcases hd with rfl | rfl | rfl
      all_goals exact ⟨q1, q2, q3, q4, q5, q6, q7, q8, q9, q10⟩
    · rintro i f A hi ⟨hle, h1, h2, h3, h6, h7, h8, hb3, hms, h15⟩ h17 h16
      have hix := indexAddr_encSl true 1 (ol.map encInt) i (encInt ol[i]) (by rw [List.getElem?_map, List.getElem?_eq_getElem hi]; rfl)
      rw [foldl_take _ _ _ _ hi]
      generalize (ol.take i).foldl (there1 free fn) ([], false) = st at h6 hms ⊢
      obtain ⟨sn, tw⟩ := st
      generalize ol[i] = z at hix ⊢
      simp only [encInt, AV.cells] at hix
      simp only [there1]
      simp only at h6 hms
      refine nwp_then (fun f A => A0.le A ∧ f 1 = .int .i64 free ∧ f 2 = .bool fn ∧ f 3 = .ptr b3 0 ∧ f 6 = .bool tw ∧ f 7 = .bool false ∧ f 8 = .map ms ∧ A b3 = some (.cells c.enc.cells) ∧ A ms = some (mapB AV.bool sn) ∧ f 15 = encSl true 1 (ol.map encInt) ∧ f 16 = .int .i64 ol.length ∧ f 17 = .int .i64 i ∧ f 10 = .int .i64 z) ?_ ?_
      · simp only [n_flatten_there_r4, h15, h17, hix, go_sem, ↓reduceIte, eq_self]
        exact Here.mk ⟨hle, h1, h2, h3, h6, h7, h8, hb3, hms, h15, h16, h17, rfl⟩
      clear hle h1 h2 h3 h6 h7 h8 hb3 hms h15 h16 h17
      rintro f A ⟨hle, h1, h2, h3, h6, h7, h8, hb3, hms, h15, h16, h17, h10⟩
      refine nwp_cut (fun f A => A0.le A ∧ f 1 = .int .i64 free ∧ f 2 = .bool fn ∧ f 3 = .ptr b3 0 ∧ f 6 = .bool (tw || ((mget sn z).getD false || (fn && decide (z ≤ free)))) ∧ f 7 = .bool false ∧ f 8 = .map ms ∧ A b3 = some (.cells c.enc.cells) ∧ A ms = some (mapB AV.bool sn) ∧ f 15 = encSl true 1 (ol.map encInt) ∧ f 16 = .int .i64 ol.length ∧ f 17 = .int .i64 i ∧ f 10 = .int .i64 z) ?_ ?_
      · refine nwp_then (fun f A => A0.le A ∧ f 1 = .int .i64 free ∧ f 2 = .bool fn ∧ f 3 = .ptr b3 0 ∧ f 6 = .bool tw ∧ f 7 = .bool false ∧ f 8 = .map ms ∧ A b3 = some (.cells c.enc.cells) ∧ A ms = some (mapB AV.bool sn) ∧ f 15 = encSl true 1 (ol.map encInt) ∧ f 16 = .int .i64 ol.length ∧ f 17 = .int .i64 i ∧ f 10 = .int .i64 z ∧ f 31 = .bool ((mget sn z).getD false || (fn && decide (z ≤ free)))) ?_ ?_
        · cases hgz : (mget sn z).getD false <;> cases fn
          all_goals
            simp only [n_flatten_there_r5, h1, h2, h8, h10, hms, hgz, go_sem, Nat.reduceEqDiff, ↓reduceIte, Bool.false_eq_true, eq_self]
            refine Here.mk ⟨hle, h1, h2, h3, h6, h7, h8, hb3, hms, h15, h16, h17, h10, ?_⟩
            show AV.bool _ = AV.bool _
            try simp
        clear hle h1 h2 h3 h6 h7 h8 hb3 hms h15 h16 h17 h10
        rintro f A ⟨hle, h1, h2, h3, h6, h7, h8, hb3, hms, h15, h16, h17, h10, h31⟩
        refine nwp_test _ h31 (fun hc => ?_) fun hc => ?_
        · rw [hc, Bool.or_true]
          refine nwp_last (fun f A => A0.le A ∧ f 1 = .int .i64 free ∧ f 2 = .bool fn ∧ f 3 = .ptr b3 0 ∧ f 6 = .bool true ∧ f 7 = .bool false ∧ f 8 = .map ms ∧ A b3 = some (.cells c.enc.cells) ∧ A ms = some (mapB AV.bool sn) ∧ f 15 = encSl true 1 (ol.map encInt) ∧ f 16 = .int .i64 ol.length ∧ f 17 = .int .i64 i ∧ f 10 = .int .i64 z) ?_ fun f A h => h
          simp only [n_flatten_there_r6, go_sem]
          exact Here.mk ⟨hle, h1, h2, h3, rfl, h7, h8, hb3, hms, h15, h16, h17, h10⟩
        · rw [hc, Bool.or_false]
          exact ⟨hle, h1, h2, h3, h6, h7, h8, hb3, hms, h15, h16, h17, h10⟩
      clear hle h1 h2 h3 h6 h7 h8 hb3 hms h15 h16 h17 h10
      generalize (tw || ((mget sn z).getD false || (fn && decide (z ≤ free)))) = tw2
      rintro f A ⟨hle, h1, h2, h3, h6, h7, h8, hb3, hms, h15, h16, h17, h10⟩
      refine nwp_last (fun f A => A0.le A ∧ f 1 = .int .i64 free ∧ f 2 = .bool fn ∧ f 3 = .ptr b3 0 ∧ f 6 = .bool tw2 ∧ f 7 = .bool false ∧ f 8 = .map ms ∧ A b3 = some (.cells c.enc.cells) ∧ A ms = some (mapB AV.bool (mput sn z true)) ∧ f 15 = encSl true 1 (ol.map encInt) ∧ f 16 = .int .i64 ol.length ∧ f 17 = .int .i64 i) ?_
        fun f A ⟨q1, q2, q3, q4, q5, q6, q7, q8, q9, q10, q11, q12⟩ => ⟨⟨q1, q2, q3, q4, q5, q6, q7, q8, q9, q10⟩, q12, q11⟩
      simp only [n_flatten_there_r7, h8, h10, hms, go_sem, Nat.reduceEqDiff, ↓reduceIte, eq_self]
      have hn : b3 ≠ ms := fun e => by subst e; rw [hms] at hb3; cases hb3
      exact Here.mk ⟨hle.set' hms0, h1, h2, h3, h6, h7, h8, by rw [Heap.set_other _ _ hn]; exact hb3, Heap.set_same _ _ _, h15, h16, h17⟩
    · rintro f A ⟨q1, q2, q3, q4, q5, q6, q7, q8, q9, q10⟩
      rw [List.take_of_length_le (Nat.le_refl _), h1T] at q5
      exact ⟨q1, q2, q3, q4, q5, q6, q8⟩
  clear hle h1 h2 h3 h6 h7 h8 hb3 hms
  rintro f A ⟨hle, h1, h2, h3, h6, h7, hb3⟩
  refine nwp_cut (fun f A => A0.le A ∧ f 6 = .bool T1 ∧ f 7 = .bool T2) ?_ ?_
  · refine nwp_then (fun f A => A0.le A ∧ f 1 = .int .i64 free ∧ f 2 = .bool fn ∧ f 6 = .bool T1 ∧ f 7 = .bool false ∧ f 36 = encSl true 1 (ul.map encInt) ∧ f 37 = .int .i64 ul.length ∧ f 38 = .int .i64 0) ?_ ?_
    · simp only [n_flatten_there_r10, h3, hb3, hte, go_sem, ↓reduceIte, eq_self]
      refine hub.call ?_
      simp only [lenAV_encSl, List.length_map, go_sem]
      exact Here.mk ⟨hle, h1, h2, h6, h7, rfl, rfl, rfl⟩
    clear hle h1 h2 h3 h6 h7 hb3
    rintro f A ⟨hle, h1, h2, h6, h7, h36, h37, h38⟩
    refine nwp_for (ti := 38) (tn := 37) (tt := 39) (tw := 49) (id := 2) (id2 := 3) ul.length (by omega) (fun i f A => A0.le A ∧ f 1 = .int .i64 free ∧ f 2 = .bool fn ∧ f 6 = .bool T1 ∧ f 7 = .bool ((ul.take i).foldl (there2 free fn) false) ∧ f 36 = encSl true 1 (ul.map encInt)) (by decide) ?_ h38 h37 ⟨hle, h1, h2, h6, h7, h36⟩ ?_ ?_
    · rintro i f A d v hd ⟨q1, q2, q3, q4, q5, q6⟩
      rcases hd with rfl | rfl | rfl
      all_goals exact ⟨q1, q2, q3, q4, q5, q6⟩
    · rintro i f A hi ⟨hle, h1, h2, h6, h7, h36⟩ h38 h37
      have hix := indexAddr_encSl true 1 (ul.map encInt) i (encInt ul[i]) (by rw [List.getElem?_map, List.getElem?_eq_getElem hi]; rfl)
      rw [foldl_take _ _ _ _ hi]
      generalize (ul.take i).foldl (there2 free fn) false = mi at h7 ⊢
      generalize ul[i] = z at hix ⊢
      simp only [encInt, AV.cells] at hix
      simp only [there2]
      refine nwp_then (fun f A => A0.le A ∧ f 1 = .int .i64 free ∧ f 2 = .bool fn ∧ f 6 = .bool T1 ∧ f 7 = .bool mi ∧ f 36 = encSl true 1 (ul.map encInt) ∧ f 37 = .int .i64 ul.length ∧ f 38 = .int .i64 i ∧ f 12 = .int .i64 z) ?_ ?_
      · simp only [n_flatten_there_r12, h36, h38, hix, go_sem, ↓reduceIte, eq_self]
        exact Here.mk ⟨hle, h1, h2, h6, h7, h36, h37, h38, rfl⟩
      clear hle h1 h2 h6 h7 h36 h37 h38
      rintro f A ⟨hle, h1, h2, h6, h7, h36, h37, h38, h12⟩
      refine nwp_then (fun f A => A0.le A ∧ f 1 = .int .i64 free ∧ f 2 = .bool fn ∧ f 6 = .bool T1 ∧ f 7 = .bool mi ∧ f 36 = encSl true 1 (ul.map encInt) ∧ f 37 = .int .i64 ul.length ∧ f 38 = .int .i64 i ∧ f 48 = .bool (!fn || decide (z > free))) ?_ ?_
      · cases fn
        all_goals
          simp only [n_flatten_there_r13, h1, h2, h12, go_sem, Nat.reduceEqDiff, ↓reduceIte, Bool.false_eq_true, eq_self, Bool.not_true, Bool.not_false]
          refine Here.mk ⟨hle, h1, h2, h6, h7, h36, h37, h38, ?_⟩
          show AV.bool _ = AV.bool _
          try simp
      clear hle h1 h2 h6 h7 h36 h37 h38 h12
      rintro f A ⟨hle, h1, h2, h6, h7, h36, h37, h38, h48⟩
      refine nwp_test _ h48 (fun hc => ?_) fun hc => ?_
      · rw [hc, Bool.or_true]
        refine nwp_last (fun f A => A0.le A ∧ f 1 = .int .i64 free ∧ f 2 = .bool fn ∧ f 6 = .bool T1 ∧ f 7 = .bool true ∧ f 36 = encSl true 1 (ul.map encInt) ∧ f 37 = .int .i64 ul.length ∧ f 38 = .int .i64 i) ?_ fun f A ⟨q1, q2, q3, q4, q5, q6, q7, q8⟩ => ⟨⟨q1, q2, q3, q4, q5, q6⟩, q8, q7⟩
        simp only [n_flatten_there_r14, go_sem]
        exact Here.mk ⟨hle, h1, h2, h6, rfl, h36, h37, h38⟩
      · rw [hc, Bool.or_false]
        exact ⟨⟨hle, h1, h2, h6, h7, h36⟩, h38, h37⟩
    · rintro f A ⟨q1, q2, q3, q4, q5, q6⟩
      rw [List.take_of_length_le (Nat.le_refl _), h2T] at q5
      exact ⟨q1, q4, q5⟩
  clear hle h1 h2 h3 h6 h7 hb3
  rintro f A ⟨hle, h6, h7⟩
  simp only [n_flatten_there_r17, h6, h7, go_sem, Nat.reduceEqDiff, ↓reduceIte, eq_self]
  exact hle
end Go.NL

set_option linter.unusedVariables false

set_option maxRecDepth 10000
namespace Go.NL
open Go.Proofs
theorem flatAtoms1_spec (a : Atom) : NPure Try.prog F_flatten_atoms_1 [a.enc] (.bool (!a.ok)) := by
  have hat := Atom_spec a
  obtain ⟨k, n, s⟩ := a
  simp only [Atom.enc] at hat ⊢
  refine NPure.walk c_flatten_atoms_1 (Nat.le_of_ble_eq_true rfl) fun A => ?_
  simp only [n_flatten_atoms_1, go_sem, Nat.reduceEqDiff, Nat.reduceAdd, Nat.reduceLeDiff, ↓reduceIte, eq_self]
  intro b hb
  refine hat.call ?_
  simp [Heap.le.set (Heap.le.refl A) hb, go_sem, ↓reduceIte, eq_self]
theorem all_not_any : ∀ l : List Atom, (!(l.any fun a => !a.ok)) = l.all Atom.ok
  | [] => rfl
  | a :: l => by simp [← all_not_any l]
theorem flatAtoms_spec (l : List Atom) (hl : l.length ≤ big) (nl : Bool) : NPure Try.prog F_flatten_atoms [encSl nl 3 (l.map Atom.enc)] (.bool (l.all Atom.ok)) := by
  refine NPure.walk c_flatten_atoms (Nat.le_of_ble_eq_true rfl) fun A => ?_
  have hany := containsAtom_spec Atom.enc Atom.take_enc l hl nl F_flatten_atoms_1 [] [] (fun a => !a.ok) (fun a _ => flatAtoms1_spec a)
  simp only [n_flatten_atoms, go_sem, reduceCtorEq, ↓reduceIte, eq_self]
  refine hany.call ?_
  simp only [go_sem, ↓reduceIte, eq_self]
  simp only [all_not_any l, go_sem, eq_self]
end Go.NL

set_option linter.unusedVariables false

set_option maxRecDepth 10000
namespace Go.NL
open Go.Proofs
/-- How many variables a function has captured. -/
def freeOf (funs : List FlatF) (n : Int) : Int := (funs.getD n.toNat (0, Core.zero)).1
def tagBad (funs : List FlatF) (na nt : Nat) (n : Int) : Bool := decide (n < 0) || (decide ((funs.length : Int) ≤ n) || !decide (freeOf funs n = IntKind.i64.wrap ((na : Int) + nt)))
/-- May a part be, but for its own parts, of a flat program? -/
def Core.flatOwn (funs : List FlatF) : Core → Bool
  | .mk k x n s na a nt t nl l =>
    if k = 7 ∨ k = 8 then false
    else if k = 13 then !(!decide (x = 0) || (!decide (s = []) || (decide (0 < t.length) || (decide (0 < l.length) || (decide (n < 0) || decide ((funs.length : Int) ≤ n)))))) && (decide ((a.length : Int) = freeOf funs n) && a.all Atom.ok)
    else if k = 14 then !(!decide (n = 0) || (!decide (s = []) || (!decide ((l.length : Int) = 1) || (decide ((t.length : Int) < 1) || (decide (1024 < (t.length : Int)) || (decide (x < 0) || decide (IntKind.i64.wrap (1048576 - t.length) < x))))))) && (!(t.any (tagBad funs a.length t.length)) && a.all Atom.ok)
    else (Core.mk k x n s na a nt t nl l).own false
set_option maxHeartbeats 4000000 in
theorem flatOwn_spec (c : Core) (funs : List FlatF) (main : Core) (ha : c.a.length ≤ 1099511627776) (ht : c.tags.length ≤ 1099511627776) (hL : c.l.length ≤ 1099511627776) (hf : funs.length ≤ 1099511627776) : NPure Try.prog F_flatten_own [c.enc, encFlat funs main] (.bool (c.flatOwn funs)) := by
  refine NPure.walk c_flatten_own (Nat.le_of_ble_eq_true rfl) fun A0 => ?_
  have hown := Own_spec c false ha ht hL
  have hte := c.take_enc
  have hone := c.one_enc
  have hms := main.one_enc
  have hml := main.enc_cells
  obtain ⟨k, x, n, s, na, a, nt, t, nl, l⟩ := c
  simp only [Core.tags, Core.l, Core.a] at ht hL ha
  have hat := fun nl => flatAtoms_spec a ha nl
  have hCe : (Core.mk k x n s na a nt t nl l).enc.cells = [.int .i64 k, .int .i64 x, .int .i64 n, .str s, encSl na 3 (a.map Atom.enc), encSl nt 1 (t.map encInt), encSl nl 7 (l.map Core.enc)] := by simp only [Core.enc, encsL, AV.cells]
  rw [hCe] at hte hone
  simp only [Core.flatOwn]
  generalize (Core.mk k x n s na a nt t nl l).own false = OW at hown ⊢
  generalize (Core.mk k x n s na a nt t nl l).enc = c0 at hown hte hCe ⊢
  generalize hO : (if k = 7 ∨ k = 8 then false
    else if k = 13 then !(!decide (x = 0) || (!decide (s = []) || (decide (0 < t.length) || (decide (0 < l.length) || (decide (n < 0) || decide ((funs.length : Int) ≤ n)))))) && (decide ((a.length : Int) = freeOf funs n) && a.all Atom.ok)
    else if k = 14 then !(!decide (n = 0) || (!decide (s = []) || (!decide ((l.length : Int) = 1) || (decide ((t.length : Int) < 1) || (decide (1024 < (t.length : Int)) || (decide (x < 0) || decide (IntKind.i64.wrap (1048576 - t.length) < x))))))) && (!(t.any (tagBad funs a.length t.length)) && a.all Atom.ok)
    else OW) = O
  simp only [n_flatten_own]
  have hfs : (encFlat funs main).cells = encSl true 8 (encF funs) :: main.enc.cells := rfl
  generalize hfl : encFlat funs main = fl at hfs ⊢
  refine nwp_then (fun f A => ∃ b2 b3, A0.le A ∧ f 2 = .ptr b2 0 ∧ f 3 = .ptr b3 0 ∧ A b2 = some (.cells [.int .i64 k, .int .i64 x, .int .i64 n, .str s, encSl na 3 (a.map Atom.enc), encSl nt 1 (t.map encInt), encSl nl 7 (l.map Core.enc)]) ∧ A b3 = some (.cells (encSl true 8 (encF funs) :: main.enc.cells))) ?_ ?_
  · simp only [n_flatten_own_r0, hCe, hone, hfs, hms, go_sem, Nat.reduceEqDiff, ↓reduceIte, eq_self]
    rintro b2 hb2 b3 ⟨hne, _, hb3⟩
    have hb3' : (A0.set b2 (.cells [.int .i64 k, .int .i64 x, .int .i64 n, .str s, encSl na 3 (a.map Atom.enc), encSl nt 1 (t.map encInt), encSl nl 7 (l.map Core.enc)])) b3 = none := by rw [Heap.set_other _ _ hne]; exact hb3
    exact Here.mk ⟨b2, b3, ((Heap.le.refl _).set hb2).set hb3', rfl, rfl, Heap.keep (Heap.set_same _ _ _) hb3', Heap.set_same _ _ _⟩
  rintro f A ⟨b2, b3, hle, h2, h3, hb2, hb3⟩
  refine nwp_cut (fun f A => (k ≠ 7 ∧ k ≠ 8 ∧ k ≠ 13 ∧ k ≠ 14) ∧ A0.le A ∧ f 2 = .ptr b2 0 ∧ f 3 = .ptr b3 0 ∧ A b2 = some (.cells [.int .i64 k, .int .i64 x, .int .i64 n, .str s, encSl na 3 (a.map Atom.enc), encSl nt 1 (t.map encInt), encSl nl 7 (l.map Core.enc)])) ?_ ?_
  · refine nwp_then (fun f A => A0.le A ∧ f 2 = .ptr b2 0 ∧ f 3 = .ptr b3 0 ∧ A b2 = some (.cells [.int .i64 k, .int .i64 x, .int .i64 n, .str s, encSl na 3 (a.map Atom.enc), encSl nt 1 (t.map encInt), encSl nl 7 (l.map Core.enc)]) ∧ A b3 = some (.cells (encSl true 8 (encF funs) :: main.enc.cells)) ∧ f 8 = .int .i64 k) ?_ ?_
    · simp only [n_flatten_own_r1, h2, hb2, go_sem, ↓reduceIte, eq_self]
      exact Here.mk ⟨hle, h2, h3, hb2, hb3, rfl⟩
    clear hle h2 h3 hb2 hb3
    rintro f A ⟨hle, h2, h3, hb2, hb3, h8⟩
    refine nwp_block ?_
    refine nwp_cut (fun f A => A0.le A ∧ f 2 = .ptr b2 0 ∧ f 3 = .ptr b3 0 ∧ A b2 = some (.cells [.int .i64 k, .int .i64 x, .int .i64 n, .str s, encSl na 3 (a.map Atom.enc), encSl nt 1 (t.map encInt), encSl nl 7 (l.map Core.enc)]) ∧ A b3 = some (.cells (encSl true 8 (encF funs) :: main.enc.cells)) ∧ f 8 = .int .i64 k ∧ f 9 = .bool (decide (k = 7 ∨ k = 8))) ?_ ?_
    · refine nwp_then (fun f A => A0.le A ∧ f 2 = .ptr b2 0 ∧ f 3 = .ptr b3 0 ∧ A b2 = some (.cells [.int .i64 k, .int .i64 x, .int .i64 n, .str s, encSl na 3 (a.map Atom.enc), encSl nt 1 (t.map encInt), encSl nl 7 (l.map Core.enc)]) ∧ A b3 = some (.cells (encSl true 8 (encF funs) :: main.enc.cells)) ∧ f 8 = .int .i64 k ∧ f 9 = .bool (decide (k = 7))) ?_ ?_
      · simp only [n_flatten_own_r2, h8, go_sem, ↓reduceIte, eq_self]
        exact Here.mk ⟨hle, h2, h3, hb2, hb3, h8, rfl⟩
      clear hle h2 h3 hb2 hb3 h8
      rintro f A ⟨hle, h2, h3, hb2, hb3, h8, h9⟩
      refine nwp_test _ h9 (fun hc => ?_) fun hc => ?_
      · exact ⟨hle, h2, h3, hb2, hb3, h8, by rw [h9]; simp [of_decide_eq_true hc]⟩
      · refine nwp_last (fun f A => A0.le A ∧ f 2 = .ptr b2 0 ∧ f 3 = .ptr b3 0 ∧ A b2 = some (.cells [.int .i64 k, .int .i64 x, .int .i64 n, .str s, encSl na 3 (a.map Atom.enc), encSl nt 1 (t.map encInt), encSl nl 7 (l.map Core.enc)]) ∧ A b3 = some (.cells (encSl true 8 (encF funs) :: main.enc.cells)) ∧ f 8 = .int .i64 k ∧ f 9 = .bool (decide (k = 7 ∨ k = 8))) ?_ fun f A h => h
        simp only [n_flatten_own_r3, h8, go_sem, ↓reduceIte, eq_self]
        refine Here.mk ⟨hle, h2, h3, hb2, hb3, h8, ?_⟩
        show AV.bool _ = AV.bool _
        simp [of_decide_eq_false hc]
    clear hle h2 h3 hb2 hb3 h8
    rintro f A ⟨hle, h2, h3, hb2, hb3, h8, h9⟩
    refine nwp_test _ h9 (fun hc => ?_) fun hc => ?_
    · rw [if_pos (of_decide_eq_true hc)] at hO
      subst hO
      simp only [n_flatten_own_r4, hle, go_sem, ↓reduceIte, eq_self]
    rw [if_neg (of_decide_eq_false hc)] at hO
    have hk78 := of_decide_eq_false hc
    clear hc h9
    refine nwp_then (fun f A => A0.le A ∧ f 2 = .ptr b2 0 ∧ f 3 = .ptr b3 0 ∧ A b2 = some (.cells [.int .i64 k, .int .i64 x, .int .i64 n, .str s, encSl na 3 (a.map Atom.enc), encSl nt 1 (t.map encInt), encSl nl 7 (l.map Core.enc)]) ∧ A b3 = some (.cells (encSl true 8 (encF funs) :: main.enc.cells)) ∧ f 8 = .int .i64 k ∧ f 12 = .bool (decide (k = 13))) ?_ ?_
    · simp only [n_flatten_own_r5, h8, go_sem, ↓reduceIte, eq_self]
      exact Here.mk ⟨hle, h2, h3, hb2, hb3, h8, rfl⟩
    clear hle h2 h3 hb2 hb3 h8
    rintro f A ⟨hle, h2, h3, hb2, hb3, h8, h12⟩
    refine nwp_test _ h12 (fun hc => ?_) fun hc => ?_
    · rw [if_pos (of_decide_eq_true hc)] at hO
      clear hc h8 h12
      have hlf : ∀ B, lenAV B .slice (encSl true 8 (encF funs)) = some funs.length := fun B => by rw [lenAV_encSl, encF_len]
      generalize hfv : encSl true 8 (encF funs) = fv at hb3 hlf
      refine nwp_cut (fun f A => ((x = 0 ∧ s = [] ∧ ¬ 0 < t.length ∧ ¬ 0 < l.length) ∧ 0 ≤ n ∧ n < funs.length) ∧ A0.le A ∧ f 2 = .ptr b2 0 ∧ f 3 = .ptr b3 0 ∧ A b2 = some (.cells [.int .i64 k, .int .i64 x, .int .i64 n, .str s, encSl na 3 (a.map Atom.enc), encSl nt 1 (t.map encInt), encSl nl 7 (l.map Core.enc)]) ∧ A b3 = some (.cells (fv :: main.enc.cells))) ?_ ?_
      · refine nwp_then (fun f A => A0.le A ∧ f 2 = .ptr b2 0 ∧ f 3 = .ptr b3 0 ∧ A b2 = some (.cells [.int .i64 k, .int .i64 x, .int .i64 n, .str s, encSl na 3 (a.map Atom.enc), encSl nt 1 (t.map encInt), encSl nl 7 (l.map Core.enc)]) ∧ A b3 = some (.cells (fv :: main.enc.cells)) ∧ f 46 = .bool (!decide (x = 0) || (!decide (s = []) || (decide (0 < t.length) || (decide (0 < l.length) || (decide (n < 0) || decide ((funs.length : Int) ≤ n))))))) ?_ ?_
        · simp only [n_flatten_own_r6, h2, hb2, go_sem, ↓reduceIte, eq_self]
          iterate 6 (all_goals try (refine ifBool_cases (fun hg => ?_) fun hg => ?_ <;> simp only [hg, h2, h3, hb2, hb3, hlf, lenAV_encSl, List.length_map, go_sem, Nat.reduceEqDiff, ↓reduceIte, Bool.false_eq_true, eq_self]))
          all_goals
            refine Here.mk ⟨hle, h2, h3, hb2, hb3, ?_⟩
            show AV.bool _ = AV.bool _
            congr 1 <;> simp_all
        clear hle h2 h3 hb2 hb3
        rintro f A ⟨hle, h2, h3, hb2, hb3, h46⟩
        refine nwp_test _ h46 (fun hc => ?_) fun hc => ?_
        · rw [hc] at hO
          simp only [Bool.not_true, Bool.false_and] at hO
          subst hO
          simp only [n_flatten_own_r7, hle, go_sem, ↓reduceIte, eq_self]
        · refine ⟨?_, hle, h2, h3, hb2, hb3⟩
          simp only [Bool.or_eq_false_iff, Bool.not_eq_false', decide_eq_true_eq, decide_eq_false_iff_not] at hc
          exact ⟨⟨hc.1, hc.2.1, hc.2.2.1, hc.2.2.2.1⟩, by omega, by omega⟩
      clear hle h2 h3 hb2 hb3
      rintro f A ⟨⟨⟨hx, hs, htl, hll⟩, hn0, hn1⟩, hle, h2, h3, hb2, hb3⟩
      have hO' : (decide ((a.length : Int) = freeOf funs n) && a.all Atom.ok) = O := by
        rw [← hO]
        have e5 : ¬ n < 0 := by omega
        have e6 : ¬ (funs.length : Int) ≤ n := by omega
        simp [hx, hs, htl, hll, e5, e6]
      clear hO
      have hnn : n.toNat < funs.length := by omega
      have hix : indexAddrAV 8 none fv n = some (.iptr (FlatF.enc funs[n.toNat]).cells 0) := by
        rw [← hfv]
        have := indexAddr_encSl true 8 (encF funs) n.toNat (FlatF.enc funs[n.toNat]) (by simp [encF, List.getElem?_eq_getElem hnn])
        rwa [Int.toNat_of_nonneg hn0] at this
      have hld : takeAV none (FlatF.enc funs[n.toNat]).cells 0 = some (.int .i64 (freeOf funs n)) := by
        rw [freeOf, List.getD_eq_getElem?_getD, List.getElem?_eq_getElem hnn]
        rfl
      generalize (FlatF.enc funs[n.toNat]).cells = fc at hix hld
      generalize freeOf funs n = fn at hld hO'
      simp only [n_flatten_own_r8, h2, h3, hb2, hb3, hix, hld, lenAV_encSl, List.length_map, go_sem, Nat.reduceEqDiff, ↓reduceIte, eq_self]
      refine ifBool_cases (fun hg => ?_) fun hg => ?_
      · simp only [hg, h2, hb2, go_sem, Nat.reduceEqDiff, ↓reduceIte, eq_self]
        refine (hat na).call ?_
        simp only [hg, hle, ← hO', go_sem, eq_self, Bool.true_and]
      · simp only [hg, hle, ← hO', go_sem, Nat.reduceEqDiff, ↓reduceIte, Bool.false_eq_true, eq_self, Bool.false_and]
    rw [if_neg (of_decide_eq_false hc)] at hO
    have hk13 := of_decide_eq_false hc
    clear hc h12
    refine nwp_then (fun f A => A0.le A ∧ f 2 = .ptr b2 0 ∧ f 3 = .ptr b3 0 ∧ A b2 = some (.cells [.int .i64 k, .int .i64 x, .int .i64 n, .str s, encSl na 3 (a.map Atom.enc), encSl nt 1 (t.map encInt), encSl nl 7 (l.map Core.enc)]) ∧ A b3 = some (.cells (encSl true 8 (encF funs) :: main.enc.cells)) ∧ f 63 = .bool (decide (k = 14))) ?_ ?_
    · simp only [n_flatten_own_r9, h8, go_sem, ↓reduceIte, eq_self]
      exact Here.mk ⟨hle, h2, h3, hb2, hb3, rfl⟩
    clear hle h2 h3 hb2 hb3 h8
    rintro f A ⟨hle, h2, h3, hb2, hb3, h63⟩
    refine nwp_test _ h63 (fun hc => ?_) fun hc => ?_
    · rw [if_pos (of_decide_eq_true hc)] at hO
      clear hc h63
      have hixA : ∀ z : Int, 0 ≤ z → z < funs.length → ∃ fc, indexAddrAV 8 none (encSl true 8 (encF funs)) z = some (.iptr fc 0) ∧ takeAV none fc 0 = some (.int .i64 (freeOf funs z)) := by
        intro z h0 h1
        have hz : z.toNat < funs.length := by omega
        refine ⟨(FlatF.enc funs[z.toNat]).cells, ?_, ?_⟩
        · have := indexAddr_encSl true 8 (encF funs) z.toNat (FlatF.enc funs[z.toNat]) (by simp [encF, List.getElem?_eq_getElem hz])
          rwa [Int.toNat_of_nonneg h0] at this
        · rw [freeOf, List.getD_eq_getElem?_getD, List.getElem?_eq_getElem hz]
          rfl
      have hlf : ∀ B, lenAV B .slice (encSl true 8 (encF funs)) = some funs.length := fun B => by rw [lenAV_encSl, encF_len]
      generalize hfv : encSl true 8 (encF funs) = fv at hb3 hlf hixA
      generalize hB : (!decide (n = 0) || (!decide (s = []) || (!decide ((l.length : Int) = 1) || (decide ((t.length : Int) < 1) || (decide (1024 < (t.length : Int)) || (decide (x < 0) || decide (IntKind.i64.wrap (1048576 - t.length) < x))))))) = B at hO
      refine nwp_cut (fun f A => B = false ∧ A0.le A ∧ f 2 = .ptr b2 0 ∧ f 3 = .ptr b3 0 ∧ A b2 = some (.cells [.int .i64 k, .int .i64 x, .int .i64 n, .str s, encSl na 3 (a.map Atom.enc), encSl nt 1 (t.map encInt), encSl nl 7 (l.map Core.enc)]) ∧ A b3 = some (.cells (fv :: main.enc.cells))) ?_ ?_
      · refine nwp_then (fun f A => A0.le A ∧ f 2 = .ptr b2 0 ∧ f 3 = .ptr b3 0 ∧ A b2 = some (.cells [.int .i64 k, .int .i64 x, .int .i64 n, .str s, encSl na 3 (a.map Atom.enc), encSl nt 1 (t.map encInt), encSl nl 7 (l.map Core.enc)]) ∧ A b3 = some (.cells (fv :: main.enc.cells)) ∧ f 104 = .bool B) ?_ ?_
        · simp only [n_flatten_own_r10, h2, hb2, go_sem, ↓reduceIte, eq_self]
          iterate 7 (all_goals try (refine ifBool_cases (fun hg => ?_) fun hg => ?_ <;> simp only [hg, h2, hb2, lenAV_encSl, List.length_map, go_sem, Nat.reduceEqDiff, ↓reduceIte, Bool.false_eq_true, eq_self]))
          all_goals
            refine Here.mk ⟨hle, h2, h3, hb2, hb3, ?_⟩
            show AV.bool _ = AV.bool _
            clear hte hCe hb2 hb3 hown hat hixA hlf hms hml hO hfs hfl
            subst hB
            simp only [*, Bool.true_or, Bool.false_or]
        clear hle h2 h3 hb2 hb3
        rintro f A ⟨hle, h2, h3, hb2, hb3, h104⟩
        refine nwp_test _ h104 (fun hc => ?_) fun hc => ?_
        · rw [hc] at hO
          simp only [Bool.not_true, Bool.false_and] at hO
          subst hO
          simp only [n_flatten_own_r11, hle, go_sem, ↓reduceIte, eq_self]
        · exact ⟨hc, hle, h2, h3, hb2, hb3⟩
      clear hle h2 h3 hb2 hb3
      rintro f A ⟨hBf, hle, h2, h3, hb2, hb3⟩
      rw [hBf, Bool.not_false, Bool.true_and] at hO
      refine nwp_cut (fun f A => t.any (tagBad funs a.length t.length) = false ∧ A0.le A ∧ f 2 = .ptr b2 0 ∧ A b2 = some (.cells [.int .i64 k, .int .i64 x, .int .i64 n, .str s, encSl na 3 (a.map Atom.enc), encSl nt 1 (t.map encInt), encSl nl 7 (l.map Core.enc)])) ?_ ?_
      · refine nwp_then (fun f A => A0.le A ∧ f 2 = .ptr b2 0 ∧ f 3 = .ptr b3 0 ∧ A b2 = some (.cells [.int .i64 k, .int .i64 x, .int .i64 n, .str s, encSl na 3 (a.map Atom.enc), encSl nt 1 (t.map encInt), encSl nl 7 (l.map Core.enc)]) ∧ A b3 = some (.cells (fv :: main.enc.cells)) ∧ f 106 = encSl nt 1 (t.map encInt) ∧ f 107 = .int .i64 t.length ∧ f 108 = .int .i64 0) ?_ ?_
        · simp only [n_flatten_own_r12, h2, hb2, lenAV_encSl, List.length_map, go_sem, ↓reduceIte, eq_self]
          exact Here.mk ⟨hle, h2, h3, hb2, hb3, rfl, rfl, rfl⟩
        clear hle h2 h3 hb2 hb3
        rintro f A ⟨hle, h2, h3, hb2, hb3, h106, h107, h108⟩
        refine nwp_for (ti := 108) (tn := 107) (tt := 109) (tw := 137) (id := 1) (id2 := 2) t.length (by omega) (fun i f A => (t.take i).any (tagBad funs a.length t.length) = false ∧ A0.le A ∧ f 2 = .ptr b2 0 ∧ f 3 = .ptr b3 0 ∧ A b2 = some (.cells [.int .i64 k, .int .i64 x, .int .i64 n, .str s, encSl na 3 (a.map Atom.enc), encSl nt 1 (t.map encInt), encSl nl 7 (l.map Core.enc)]) ∧ A b3 = some (.cells (fv :: main.enc.cells)) ∧ f 106 = encSl nt 1 (t.map encInt)) (by decide) ?_ h108 h107 ⟨rfl, hle, h2, h3, hb2, hb3, h106⟩ ?_ ?_
        · rintro i f A d v hd ⟨q1, q2, q3, q4, q5, q6, q7⟩
          rcases hd with rfl | rfl | rfl
          all_goals exact ⟨q1, q2, q3, q4, q5, q6, q7⟩
        · rintro i f A hi ⟨hany, hle, h2, h3, hb2, hb3, h106⟩ h108 h107
          have hix := indexAddr_encSl nt 1 (t.map encInt) i (encInt t[i]) (by rw [List.getElem?_map, List.getElem?_eq_getElem hi]; rfl)
          have hnext : (t.take (i + 1)).any (tagBad funs a.length t.length) = tagBad funs a.length t.length t[i] := by
            rw [List.take_add_one, List.any_append, hany, List.getElem?_eq_getElem hi]
            simp
          have hbad : tagBad funs a.length t.length t[i] = true → O = false := by
            intro h
            have : t.any (tagBad funs a.length t.length) = true := List.any_eq_true.2 ⟨t[i], List.getElem_mem hi, h⟩
            rw [← hO, this]
            rfl
          generalize t[i] = z at hix hnext hbad
          simp only [encInt, AV.cells] at hix
          refine nwp_then (fun f A => A0.le A ∧ f 2 = .ptr b2 0 ∧ f 3 = .ptr b3 0 ∧ A b2 = some (.cells [.int .i64 k, .int .i64 x, .int .i64 n, .str s, encSl na 3 (a.map Atom.enc), encSl nt 1 (t.map encInt), encSl nl 7 (l.map Core.enc)]) ∧ A b3 = some (.cells (fv :: main.enc.cells)) ∧ f 106 = encSl nt 1 (t.map encInt) ∧ f 107 = .int .i64 t.length ∧ f 108 = .int .i64 i ∧ f 6 = .int .i64 z) ?_ ?_
          · simp only [n_flatten_own_r14, h106, h108, hix, go_sem, ↓reduceIte, eq_self]
            exact Here.mk ⟨hle, h2, h3, hb2, hb3, h106, h107, h108, rfl⟩
          clear hle h2 h3 hb2 hb3 h106 h107 h108
          rintro f A ⟨hle, h2, h3, hb2, hb3, h106, h107, h108, h6⟩
          refine nwp_then (fun f A => A0.le A ∧ f 2 = .ptr b2 0 ∧ f 3 = .ptr b3 0 ∧ A b2 = some (.cells [.int .i64 k, .int .i64 x, .int .i64 n, .str s, encSl na 3 (a.map Atom.enc), encSl nt 1 (t.map encInt), encSl nl 7 (l.map Core.enc)]) ∧ A b3 = some (.cells (fv :: main.enc.cells)) ∧ f 106 = encSl nt 1 (t.map encInt) ∧ f 107 = .int .i64 t.length ∧ f 108 = .int .i64 i ∧ f 136 = .bool (tagBad funs a.length t.length z)) ?_ ?_
          · by_cases hz0 : z < 0
            · have hd0 : decide (z < 0) = true := by simpa using hz0
              simp only [n_flatten_own_r15, h6, hd0, go_sem, Nat.reduceEqDiff, ↓reduceIte, eq_self]
              refine Here.mk ⟨hle, h2, h3, hb2, hb3, h106, h107, h108, ?_⟩
              show AV.bool _ = AV.bool _
              simp [tagBad, hz0]
            · have hd0 : decide (z < 0) = false := by simpa using hz0
              by_cases hz1 : (funs.length : Int) ≤ z
              · have hd1 : decide ((funs.length : Int) ≤ z) = true := by simpa using hz1
                simp only [n_flatten_own_r15, h3, h6, hb3, hd0, hd1, hlf, go_sem, Nat.reduceEqDiff, ↓reduceIte, Bool.false_eq_true, eq_self]
                refine Here.mk ⟨hle, h2, h3, hb2, hb3, h106, h107, h108, ?_⟩
                show AV.bool _ = AV.bool _
                simp [tagBad, hz1]
              · have hd1 : decide ((funs.length : Int) ≤ z) = false := by simpa using hz1
                obtain ⟨fc, hi1, hi2⟩ := hixA z (by omega) (by omega)
                simp only [n_flatten_own_r15, h2, h3, h6, hb2, hb3, hd0, hd1, hlf, hi1, hi2, lenAV_encSl, List.length_map, go_sem, Nat.reduceEqDiff, ↓reduceIte, Bool.false_eq_true, eq_self]
                refine Here.mk ⟨hle, h2, h3, hb2, hb3, h106, h107, h108, ?_⟩
                show AV.bool _ = AV.bool _
                simp [tagBad, hz0, hz1]
          clear hle h2 h3 hb2 hb3 h106 h107 h108 h6
          rintro f A ⟨hle, h2, h3, hb2, hb3, h106, h107, h108, h136⟩
          refine nwp_test _ h136 (fun hc => ?_) fun hc => ?_
          · rw [hbad hc]
            simp only [n_flatten_own_r16, hle, go_sem, ↓reduceIte, eq_self]
          · exact ⟨⟨by rw [hnext]; exact hc, hle, h2, h3, hb2, hb3, h106⟩, h108, h107⟩
        · rintro f A ⟨hany, hle, h2, h3, hb2, hb3, h106⟩
          rw [List.take_of_length_le (Nat.le_refl _)] at hany
          exact ⟨hany, hle, h2, hb2⟩
      clear hle h2 h3 hb2 hb3
      rintro f A ⟨hany, hle, h2, hb2⟩
      rw [hany, Bool.not_false, Bool.true_and] at hO
      simp only [n_flatten_own_r19, h2, hb2, go_sem, ↓reduceIte, eq_self]
      refine (hat na).call ?_
      simp only [hle, hO, go_sem, eq_self]
    · rw [if_neg (of_decide_eq_false hc)] at hO
      exact ⟨⟨fun h => hk78 (.inl h), fun h => hk78 (.inr h), hk13, of_decide_eq_false hc⟩, hle, h2, h3, hb2⟩
  clear hle h2 h3 hb2 hb3
  rintro f A ⟨⟨k7, k8, k13, k14⟩, hle, h2, h3, hb2⟩
  rw [if_neg (by omega), if_neg k13, if_neg k14] at hO
  subst hO
  simp only [n_flatten_own_r20, h2, hb2, hte, go_sem, ↓reduceIte, eq_self]
  refine hown.call ?_
  simp only [hle, go_sem, eq_self]
end Go.NL

set_option linter.unusedVariables false

set_option maxRecDepth 10000
namespace Go.NL
open Go.Proofs
/-- A call that leaves all blocks alone, and tells v, where at least B stands. -/
def NAt (B : Heap) (P : Program) (f : FuncId) (args : List AV) (v : AV) : Prop := ∀ A, B.le A → NCalls P f args A fun v' A' => v' = v ∧ A' = A
theorem NPure.at {P : Program} {f : FuncId} {args : List AV} {v : AV} (h : NPure P f args v) (B : Heap) : NAt B P f args v := fun A _ => h A
theorem NAt.call {B : Heap} {P : Program} {f : FuncId} {args : List AV} {v : AV} (h : NAt B P f args v) {A : Heap} (hB : B.le A) {K : AV → Heap → Prop} (hk : K v A) : NCalls P f args A K :=
  (h A hB).mono fun v' A' ⟨h1, h2⟩ => by subst h1; subst h2; exact hk
theorem NAt.walk {B : Heap} {P : Program} {f : FuncId} {nf : NFn} (hc : compFn P f = some nf) {args : List AV} (hl : args.length ≤ nf.slots) {v : AV}
    (h : ∀ A, B.le A → nwp P nf.body (pureP nf.results v A) (fr0 args) A) : NAt B P f args v :=
  fun A hB => .of_body hc hl (nwp_mono _ (fun e f A' he => by
    cases e with
    | normal => exact ⟨v, he.1, A, v, .sub he.2.get, rfl, rfl⟩
    | exit id => exact he.elim
    | ret => exact ⟨v, he.1, A, v, .sub he.2.get, rfl, rfl⟩) (h A hB))
theorem NAt.pure {P : Program} {f : FuncId} {args : List AV} {v : AV} (h : NAt (fun _ => none) P f args v) : NPure P f args v := fun A => h A ⟨fun c y hc => by cases hc⟩
theorem indexCoreAt_spec {B : Heap} {α : Type} (enc : α → AV) (henc : ∀ a, takeAV (some 7) (enc a).cells 0 = some (enc a)) (l : List α) (hl : l.length ≤ 1099511627776) (nl : Bool) (fid : FuncId) (first caps : List AV) (p : α → Bool) (hp : ∀ a ∈ l, NAt B Try.prog fid (first ++ [enc a] ++ caps) (.bool (p a))) :
    NAt B Try.prog F_slices_IndexFunc__api_Core_api_Core [encSl nl 7 (l.map enc), .func fid first caps] (.int .i64 (idxOf p l)) := by
  refine NAt.walk c_slices_IndexFunc__api_Core_api_Core (Nat.le_of_ble_eq_true rfl) fun A0 hB => ?_
  repeat' (first | (intro b hb; try simp only [Heap.set_none, ne_eq] at hb) | (refine ifBool_cases (fun hc => ?_) (fun hc => ?_)) | (simp (config := {maxDischargeDepth := 12}) only [*, go_sem, Int.reduceNeg, reduceCtorEq, ↓reduceIte, eq_self]))
  refine nwp_range l.length (fun i f A => A0.le A ∧ i ≤ l.length ∧ (∀ j b, j < i → l[j]? = some b → p b = false) ∧ f 0 = encSl nl 7 (l.map enc) ∧ f 1 = .func fid first caps ∧ f 7 = .int .i64 l.length ∧ f 8 = .int .i64 i) ?_ ?_
  · exact ⟨.refl _, Nat.zero_le _, fun j b hj => absurd hj (Nat.not_lt_zero _), rfl, rfl, by simp only [go_sem, Nat.reduceEqDiff, ↓reduceIte, eq_self, List.length_map], rfl⟩
  · rintro i f A ⟨hA, hi, hj, h0, h1, h7, h8⟩
    unfold n_slices_IndexFunc__api_Core_api_Core_l7
    by_cases hi' : i < l.length
    · have hd : decide ((i : Int) < (l.length : Int)) = true := by simp; omega
      have hix := indexAddr_encSl nl 7 (l.map enc) i (enc l[i]) (by simp [hi'])
      have hte := henc l[i]
      have hw : IntKind.i64.wrap ((i : Int) + 1) = ((i + 1 : Nat) : Int) := by rw [i64w (by omega) (by omega)]; rfl
      have hpa := hp l[i] (List.getElem_mem hi')
      clear hp henc
      simp only [h0, h1, h7, h8, hd, hix, hte, go_sem, Nat.reduceEqDiff, Int.reduceNeg, reduceCtorEq, ↓reduceIte, eq_self]
      refine hpa.call (hB.trans hA) ?_
      simp only [go_sem, ↓reduceIte, eq_self]
      refine ifBool_cases (fun hc => ?_) fun hc => ?_
      · simp only [hA, go_sem, Nat.reduceEqDiff, ↓reduceIte, eq_self]
        rw [idxOf_at p l i l[i] (by simp [hi']) hj hc]
      · simp only [h0, h1, h7, h8, hw, hA, go_sem, Nat.reduceEqDiff, reduceCtorEq, ↓reduceIte, Bool.false_eq_true, eq_self]
        refine ⟨hi', hi', fun j b hjj hb => ?_⟩
        rcases Nat.lt_or_ge j i with h | h
        · exact hj j b h hb
        · have : j = i := by omega
          subst this
          rw [List.getElem?_eq_getElem hi'] at hb
          cases hb
          exact hc
    · have hd : decide ((i : Int) < (l.length : Int)) = false := by simp; omega
      simp only [h7, h8, hd, hA, go_sem, Int.reduceNeg, ↓reduceIte, Bool.false_eq_true, eq_self]
      rw [idxOf_neg p l fun a ha => ?_]
      obtain ⟨j, hjl, rfl⟩ := List.getElem_of_mem ha
      exact hj j _ (by omega) (List.getElem?_eq_getElem hjl)
theorem containsCoreAt_spec {B : Heap} {α : Type} (enc : α → AV) (henc : ∀ a, takeAV (some 7) (enc a).cells 0 = some (enc a)) (l : List α) (hl : l.length ≤ 1099511627776) (nl : Bool) (fid : FuncId) (first caps : List AV) (p : α → Bool) (hp : ∀ a ∈ l, NAt B Try.prog fid (first ++ [enc a] ++ caps) (.bool (p a))) :
    NAt B Try.prog F_slices_ContainsFunc__api_Core_api_Core [encSl nl 7 (l.map enc), .func fid first caps] (.bool (l.any p)) := by
  refine NAt.walk c_slices_ContainsFunc__api_Core_api_Core (Nat.le_of_ble_eq_true rfl) fun A0 hB => ?_
  have h := indexCoreAt_spec enc henc l hl nl fid first caps p hp
  clear hp henc
  simp only [go_sem, Nat.reduceEqDiff, reduceCtorEq, ↓reduceIte, eq_self]
  refine h.call hB ?_
  simp only [idxOf_any, go_sem, ↓reduceIte, eq_self]
mutual
/-- May a part be, of a flat program? -/
def Core.flatMay (funs : List FlatF) : Core → Bool
  | .mk k x n s na a nt t nl l => (Core.mk k x n s na a nt t nl l).flatOwn funs && Core.flatMays funs l
def Core.flatMays (funs : List FlatF) : List Core → Bool
  | [] => true
  | c :: cs => c.flatMay funs && Core.flatMays funs cs
end
theorem Core.flatMays_eq (funs : List FlatF) : ∀ l : List Core, Core.flatMays funs l = !(l.any fun y => !y.flatMay funs)
  | [] => by simp [Core.flatMays]
  | c :: l => by rw [Core.flatMays, Core.flatMays_eq funs l]; simp
theorem takeFlat (funs : List FlatF) (main : Core) : takeAV (some 8) (encFlat funs main).cells 0 = some (encFlat funs main) := take8 _ main
theorem oneFlat (funs : List FlatF) (main : Core) : (encFlat funs main).cells.all AV.one = true := by
  rw [flat_cells, List.all_cons, main.one_enc, oneSl]
  rfl
theorem flatMay1_of {B : Heap} {b3 : Nat} {c main : Core} {funs : List FlatF} (hb3 : B b3 = some (.cells (encFlat funs main).cells)) (h : NPure Try.prog F_flatten_may [c.enc, encFlat funs main] (.bool (c.flatMay funs))) : NAt B Try.prog F_flatten_may_1 [c.enc, .ptr b3 0] (.bool (!c.flatMay funs)) := by
  refine NAt.walk c_flatten_may_1 (Nat.le_of_ble_eq_true rfl) fun A0 hB => ?_
  have hb3' := hB.get _ _ hb3
  have hte := c.take_enc
  have hone := c.one_enc
  have htf := takeFlat funs main
  generalize (encFlat funs main).cells = fc at hb3' htf
  generalize encFlat funs main = fl at h htf
  generalize c.flatMay funs = m at h ⊢
  simp only [n_flatten_may_1]
  refine nwp_then (fun f A => ∃ b2, A0.le A ∧ f 1 = .ptr b3 0 ∧ f 2 = .ptr b2 0 ∧ A b2 = some (.cells c.enc.cells) ∧ A b3 = some (.cells fc)) ?_ ?_
  · simp only [n_flatten_may_1_r0, hone, go_sem, eq_self]
    intro b hb
    exact Here.mk ⟨b, (Heap.le.refl _).set hb, rfl, rfl, Heap.set_same _ _ _, Heap.keep hb3' hb⟩
  rintro f A ⟨b2, hle, h1, h2, hb2, hb3⟩
  simp only [n_flatten_may_1_r1, h1, h2, hb2, hb3, hte, htf, go_sem, Nat.reduceEqDiff, ↓reduceIte, eq_self]
  refine h.call ?_
  simp only [hle, go_sem, ↓reduceIte, eq_self]
theorem flatMay_spec (funs : List FlatF) (main : Core) (hf : funs.length ≤ big) : ∀ (N : Nat) (c : Core), c.size ≤ N → c.small big = true → NPure Try.prog F_flatten_may [c.enc, encFlat funs main] (.bool (c.flatMay funs)) := by
  have hbig : big = 1099511627776 := rfl
  intro N
  induction N with
  | zero => intro c hc; cases c; simp [Core.size] at hc
  | succ N ih =>
    intro c hc hsm
    refine NPure.walk c_flatten_may (Nat.le_of_ble_eq_true rfl) fun A0 => ?_
    have hte := c.take_enc
    have hone := c.one_enc
    have htf := takeFlat funs main
    have hof := oneFlat funs main
    obtain ⟨k, x, n, s, na, a, nt, t, nl, l⟩ := c
    have hl : Core.sizes l ≤ N := by simp only [Core.size] at hc; omega
    simp only [Core.small, Bool.and_eq_true, decide_eq_true_eq] at hsm
    obtain ⟨⟨⟨sa, st⟩, sl⟩, sls⟩ := hsm
    have hown := flatOwn_spec (Core.mk k x n s na a nt t nl l) funs main (by simp only [Core.a]; omega) (by simp only [Core.tags]; omega) (by simp only [Core.l]; omega) (by omega)
    have hsub : ∀ y ∈ l, NPure Try.prog F_flatten_may [y.enc, encFlat funs main] (.bool (y.flatMay funs)) := fun y hy => ih y (Nat.le_trans (Core.size_mem hy) hl) (Core.smalls_mem sls y hy)
    have hC : takeAV none (Core.mk k x n s na a nt t nl l).enc.cells 6 = some (encSl nl 7 (l.map Core.enc)) := by simp only [Core.enc, encsL]; rfl
    have hcont : ∀ (B : Heap) (b3 : Nat), B b3 = some (.cells (encFlat funs main).cells) → NAt B Try.prog F_slices_ContainsFunc__api_Core_api_Core [encSl nl 7 (l.map Core.enc), .func F_flatten_may_1 [] [.ptr b3 0]] (.bool (l.any fun y => !y.flatMay funs)) :=
      fun B b3 hb3 => containsCoreAt_spec Core.enc Core.take_enc l (by omega) nl F_flatten_may_1 [] [.ptr b3 0] (fun y => !y.flatMay funs) (fun y hy => flatMay1_of hb3 (hsub y hy))
    rw [Core.flatMay, Core.flatMays_eq]
    generalize (Core.mk k x n s na a nt t nl l).flatOwn funs = OW at hown ⊢
    generalize (l.any fun y => !y.flatMay funs) = AN at hcont ⊢
    generalize (Core.mk k x n s na a nt t nl l).enc = ce at hte hone hown hC ⊢
    have hcont' : ∀ (b3 : Nat) (A : Heap), A b3 = some (.cells (encFlat funs main).cells) → ∀ K : AV → Heap → Prop, K (.bool AN) A → NCalls Try.prog F_slices_ContainsFunc__api_Core_api_Core [encSl nl 7 (l.map Core.enc), .func F_flatten_may_1 [] [.ptr b3 0]] A K := fun b3 A hb K hk => (hcont A b3 hb).call (Heap.le.refl _) hk
    clear hcont hsub ih
    generalize encFlat funs main = fl at htf hown hof hcont' ⊢
    simp only [n_flatten_may]
    refine nwp_then (fun f A => ∃ b2 b3, A0.le A ∧ f 2 = .ptr b2 0 ∧ f 3 = .ptr b3 0 ∧ A b2 = some (.cells ce.cells) ∧ A b3 = some (.cells fl.cells)) ?_ ?_
    · simp only [n_flatten_may_r0, hone, hof, go_sem, Nat.reduceEqDiff, ↓reduceIte, eq_self]
      rintro b2 hb2 b3 ⟨hne, _, hb3⟩
      have hb3' : (A0.set b2 (.cells ce.cells)) b3 = none := by rw [Heap.set_other _ _ hne]; exact hb3
      exact Here.mk ⟨b2, b3, ((Heap.le.refl _).set hb2).set hb3', rfl, rfl, Heap.keep (Heap.set_same _ _ _) hb3', Heap.set_same _ _ _⟩
    rintro f A ⟨b2, b3, hle, h2, h3, hb2, hb3⟩
    refine nwp_cut (fun f A => OW = true ∧ A0.le A ∧ f 2 = .ptr b2 0 ∧ f 3 = .ptr b3 0 ∧ A b2 = some (.cells ce.cells) ∧ A b3 = some (.cells fl.cells)) ?_ ?_
    · refine nwp_then (fun f A => A0.le A ∧ f 2 = .ptr b2 0 ∧ f 3 = .ptr b3 0 ∧ A b2 = some (.cells ce.cells) ∧ A b3 = some (.cells fl.cells) ∧ f 8 = .bool (!OW)) ?_ ?_
      · simp only [n_flatten_may_r1, h2, h3, hb2, hb3, hte, htf, go_sem, Nat.reduceEqDiff, ↓reduceIte, eq_self]
        refine hown.call ?_
        simp only [go_sem]
        exact Here.mk ⟨hle, h2, h3, hb2, hb3, rfl⟩
      clear hle h2 h3 hb2 hb3
      rintro f A ⟨hle, h2, h3, hb2, hb3, h8⟩
      refine nwp_test _ h8 (fun hc => ?_) fun hc => ?_
      · have hOW : OW = false := by simpa using hc
        simp only [n_flatten_may_r2, hle, hOW, Bool.false_and, go_sem, ↓reduceIte, Bool.false_eq_true, eq_self]
      · exact ⟨by simpa using hc, hle, h2, h3, hb2, hb3⟩
    clear hle h2 h3 hb2 hb3
    rintro f A ⟨hOW, hle, h2, h3, hb2, hb3⟩
    simp only [n_flatten_may_r3, h2, h3, hb2, hC, go_sem, Nat.reduceEqDiff, ↓reduceIte, eq_self]
    refine hcont' b3 A hb3 _ ?_
    simp only [hle, hOW, Bool.true_and, go_sem, ↓reduceIte, eq_self]
end Go.NL

set_option linter.unusedVariables false

set_option maxRecDepth 10000
namespace Go.NL
open Go.Proofs
def funBad (funs : List FlatF) (p : FlatF) : Bool := decide (p.1 < 0) || (decide (1048575 < p.1) || !p.2.flatMay funs)
/-- Why a flat program may not be. -/
def flatCheck (funs : List FlatF) (main : Core) : Int :=
  if (decide (16384 < funs.length) || !main.flatMay funs) = true then 2
  else if funs.any (funBad funs) = true then 2
  else if (main.twice 0 false || funs.any fun p => p.2.twice p.1 true) = true then 7
  else if (main.missing 0 false || funs.any fun p => p.2.missing p.1 true) = true then 6
  else 0
/-- What of a part is small enough to be walked. -/
structure Core.FlatFine (funs : List FlatF) (c : Core) : Prop where
  sm : c.small big = true
  gd : c.flatMay funs = true → c.good big = true
  vr : c.flatMay funs = true → c.vars = true
  od : c.order.length ≤ big
  at_ : c.atoms ≤ big
theorem take1 (v : AV) (c : Core) : takeAV (some 7) (v :: c.enc.cells) 1 = some c.enc := by
  obtain ⟨k, x, n, s, na, a, nt, t, nl, l⟩ := c
  rfl
theorem any_take_succ {α : Type} (p : α → Bool) (l : List α) (i : Nat) (h : i < l.length) : (l.take (i + 1)).any p = ((l.take i).any p || p l[i]) := by
  rw [List.take_add_one, List.any_append, List.getElem?_eq_getElem h]
  simp
set_option maxHeartbeats 1000000 in
theorem flatCheck_spec (funs : List FlatF) (main : Core) (hf : funs.length ≤ big) (hm : main.FlatFine funs) (hfs : ∀ p ∈ funs, p.2.FlatFine funs) : NPure Try.prog F_flatten_Check [encFlat funs main] (.int .i64 (flatCheck funs main)) := by
  have hbig : big = 1099511627776 := rfl
  refine NPure.walk c_flatten_Check (Nat.le_of_ble_eq_true rfl) fun A0 => ?_
  have hmay : ∀ c : Core, c.FlatFine funs → NPure Try.prog F_flatten_may [c.enc, encFlat funs main] (.bool (c.flatMay funs)) := fun c hc => flatMay_spec funs main hf c.size c (Nat.le_refl _) hc.sm
  have hth : ∀ (c : Core) (free : Int) (fn : Bool), c.FlatFine funs → c.flatMay funs = true → NPure Try.prog F_flatten_there [c.enc, .int .i64 free, .bool fn] (.tuple [.bool (c.twice free fn), .bool (c.missing free fn)]) :=
    fun c free fn hc h => there_spec c free fn (hc.gd h) hc.od (hc.vr h) hc.at_
  have hof := oneFlat funs main
  have htf := takeFlat funs main
  have hfc := flat_cells funs main
  have htm := take1 (encSl true 8 (encF funs)) main
  have hlf : ∀ B, lenAV B .slice (encSl true 8 (encF funs)) = some funs.length := fun B => by rw [lenAV_encSl, encF_len]
  have hix : ∀ i, (h : i < funs.length) → indexAddrAV 8 none (encSl true 8 (encF funs)) (i : Int) = some (.iptr (.int .i64 funs[i].1 :: funs[i].2.enc.cells) 0) := fun i h => indexAddr_encSl true 8 (encF funs) i (FlatF.enc funs[i]) (by simp [encF, List.getElem?_eq_getElem h])
  generalize hO : flatCheck funs main = O
  rw [flatCheck] at hO
  have hmm := hmay main hm
  generalize hMM : main.flatMay funs = MM at hmm hO
  generalize encFlat funs main = fl at hmay hof htf hfc hmm ⊢
  generalize encSl true 8 (encF funs) = fv at hfc htm hlf hix
  simp only [n_flatten_Check]
  refine nwp_then (fun f A => ∃ b1, A0.le A ∧ f 1 = .ptr b1 0 ∧ A b1 = some (.cells (fv :: main.enc.cells))) ?_ ?_
  · simp only [n_flatten_Check_r0, hof, go_sem, eq_self]
    intro b hb
    exact Here.mk ⟨b, (Heap.le.refl _).set hb, rfl, by rw [← hfc]; exact Heap.set_same _ _ _⟩
  rintro f A ⟨b1, hle, h1, hb1⟩
  rw [hfc] at htf
  -- the main part, by its shape
  refine nwp_cut (fun f A => (decide (16384 < funs.length) || !MM) = false ∧ A0.le A ∧ f 1 = .ptr b1 0 ∧ A b1 = some (.cells (fv :: main.enc.cells))) ?_ ?_
  · refine nwp_then (fun f A => A0.le A ∧ f 1 = .ptr b1 0 ∧ A b1 = some (.cells (fv :: main.enc.cells)) ∧ f 21 = .bool (decide (16384 < funs.length) || !MM)) ?_ ?_
    · by_cases hl : 16384 < funs.length
      · have hd : decide ((16384 : Int) < (funs.length : Int)) = true := by simp; omega
        simp only [n_flatten_Check_r1, h1, hb1, hlf, hd, go_sem, Nat.reduceEqDiff, ↓reduceIte, eq_self]
        refine Here.mk ⟨hle, h1, hb1, ?_⟩
        show AV.bool _ = AV.bool _
        simp [hl]
      · have hd : decide ((16384 : Int) < (funs.length : Int)) = false := by simp; omega
        simp only [n_flatten_Check_r1, h1, hb1, hlf, hd, htm, htf, go_sem, Nat.reduceEqDiff, ↓reduceIte, eq_self]
        refine hmm.call ?_
        simp only [go_sem, Nat.reduceEqDiff, ↓reduceIte, Bool.false_eq_true, eq_self]
        refine Here.mk ⟨hle, h1, hb1, ?_⟩
        show AV.bool _ = AV.bool _
        simp [hl]
    clear hle h1 hb1
    rintro f A ⟨hle, h1, hb1, h21⟩
    refine nwp_test _ h21 (fun hc => ?_) fun hc => ?_
    · rw [if_pos hc] at hO
      simp only [n_flatten_Check_r2, hle, hO, go_sem, ↓reduceIte, eq_self]
    · exact ⟨hc, hle, h1, hb1⟩
  clear hle h1 hb1
  rintro f A ⟨hc1, hle, h1, hb1⟩
  rw [if_neg (by rw [hc1]; exact Bool.false_ne_true)] at hO
  have hMt : MM = true := by simp only [Bool.or_eq_false_iff, Bool.not_eq_false'] at hc1; exact hc1.2
  have hthm := hth main 0 false hm (by rw [hMM]; exact hMt)
  generalize main.twice 0 false = T1 at hthm hO
  generalize main.missing 0 false = M1 at hthm hO
  refine nwp_then (fun f A => A0.le A ∧ f 1 = .ptr b1 0 ∧ A b1 = some (.cells (fv :: main.enc.cells)) ∧ f 3 = .bool T1 ∧ f 4 = .bool M1) ?_ ?_
  · simp only [n_flatten_Check_r3, h1, hb1, htm, go_sem, ↓reduceIte, eq_self]
    refine hthm.call ?_
    simp only [go_sem, Nat.reduceEqDiff, ↓reduceIte, eq_self]
    exact Here.mk ⟨hle, h1, hb1, rfl, rfl⟩
  clear hle h1 hb1
  rintro f A ⟨hle, h1, hb1, h3, h4⟩
  -- the functions, by their shape
  refine nwp_cut (fun f A => funs.any (funBad funs) = false ∧ A0.le A ∧ f 1 = .ptr b1 0 ∧ A b1 = some (.cells (fv :: main.enc.cells)) ∧ f 3 = .bool T1 ∧ f 4 = .bool M1) ?_ ?_
  · refine nwp_then (fun f A => A0.le A ∧ f 1 = .ptr b1 0 ∧ A b1 = some (.cells (fv :: main.enc.cells)) ∧ f 3 = .bool T1 ∧ f 4 = .bool M1 ∧ f 29 = fv ∧ f 30 = .int .i64 funs.length ∧ f 31 = .int .i64 0) ?_ ?_
    · simp only [n_flatten_Check_r4, h1, hb1, hlf, go_sem, ↓reduceIte, eq_self]
      exact Here.mk ⟨hle, h1, hb1, h3, h4, rfl, rfl, rfl⟩
    clear hle h1 hb1 h3 h4
    rintro f A ⟨hle, h1, hb1, h3, h4, h29, h30, h31⟩
    refine nwp_for (ti := 31) (tn := 30) (tt := 32) (tw := 50) (id := 0) (id2 := 1) funs.length (by omega) (fun i f A => (funs.take i).any (funBad funs) = false ∧ A0.le A ∧ f 1 = .ptr b1 0 ∧ A b1 = some (.cells (fv :: main.enc.cells)) ∧ f 3 = .bool T1 ∧ f 4 = .bool M1 ∧ f 29 = fv) (by decide) ?_ h31 h30 ⟨rfl, hle, h1, hb1, h3, h4, h29⟩ ?_ ?_
    · rintro i f A d v hd ⟨q1, q2, q3, q4, q5, q6, q7⟩
      rcases hd with rfl | rfl | rfl
      all_goals exact ⟨q1, q2, q3, q4, q5, q6, q7⟩
    · rintro i f A hi ⟨hany, hle, h1, hb1, h3, h4, h29⟩ h31 h30
      have hixi := hix i hi
      have hnext : (funs.take (i + 1)).any (funBad funs) = funBad funs funs[i] := by rw [any_take_succ _ _ _ hi, hany, Bool.false_or]
      have hbad : funBad funs funs[i] = true → O = 2 := by
        intro h
        rw [if_pos (List.any_eq_true.2 ⟨funs[i], List.getElem_mem hi, h⟩)] at hO
        exact hO.symm
      have hmi := hmay funs[i].2 (hfs _ (List.getElem_mem hi))
      simp only [funBad] at hnext hbad
      generalize funs[i] = p at hixi hnext hbad hmi
      obtain ⟨pn, pc⟩ := p
      simp only at hixi hnext hbad hmi
      have ht8 := take8 (.int .i64 pn) pc
      have ht7 := take1 (.int .i64 pn) pc
      have hcl := pc.enc_cells
      have hone := pc.one_enc
      generalize pc.enc = ce at hixi hmi ht8 ht7 hcl hone
      generalize pc.flatMay funs = PM at hmi hnext hbad
      refine nwp_then (fun f A => ∃ b6, A0.le A ∧ f 1 = .ptr b1 0 ∧ A b1 = some (.cells (fv :: main.enc.cells)) ∧ f 3 = .bool T1 ∧ f 4 = .bool M1 ∧ f 29 = fv ∧ f 30 = .int .i64 funs.length ∧ f 31 = .int .i64 i ∧ f 6 = .ptr b6 0 ∧ A b6 = some (.cells (.int .i64 pn :: ce.cells))) ?_ ?_
      · simp only [n_flatten_Check_r6, h29, h31, hixi, ht8, hcl, hone, go_sem, Nat.reduceEqDiff, Nat.reduceAdd, Nat.reduceLeDiff, ↓reduceIte, eq_self]
        intro b6 hb6
        refine Here.mk ⟨b6, ?_, h1, ?_, h3, h4, h29, h30, h31, rfl, ?_⟩
        · exact hle.set hb6
        · exact Heap.keep hb1 hb6
        · exact Heap.set_same _ _ _
      clear hle h1 hb1 h3 h4 h29 h30 h31
      rintro f A ⟨b6, hle, h1, hb1, h3, h4, h29, h30, h31, h6, hb6⟩
      refine nwp_then (fun f A => A0.le A ∧ f 1 = .ptr b1 0 ∧ A b1 = some (.cells (fv :: main.enc.cells)) ∧ f 3 = .bool T1 ∧ f 4 = .bool M1 ∧ f 29 = fv ∧ f 30 = .int .i64 funs.length ∧ f 31 = .int .i64 i ∧ f 49 = .bool (decide (pn < 0) || (decide (1048575 < pn) || !PM))) ?_ ?_
      · by_cases hz0 : pn < 0
        · have hd0 : decide (pn < 0) = true := by simpa using hz0
          simp only [n_flatten_Check_r7, h6, hb6, hd0, go_sem, Nat.reduceEqDiff, ↓reduceIte, eq_self]
          exact Here.mk ⟨hle, h1, hb1, h3, h4, h29, h30, h31, rfl⟩
        · have hd0 : decide (pn < 0) = false := by simpa using hz0
          by_cases hz1 : 1048575 < pn
          · have hd1 : decide (1048575 < pn) = true := by simpa using hz1
            simp only [n_flatten_Check_r7, h6, hb6, hd0, hd1, go_sem, Nat.reduceEqDiff, ↓reduceIte, Bool.false_eq_true, eq_self]
            exact Here.mk ⟨hle, h1, hb1, h3, h4, h29, h30, h31, rfl⟩
          · have hd1 : decide (1048575 < pn) = false := by simpa using hz1
            simp only [n_flatten_Check_r7, h1, h6, hb1, hb6, hd0, hd1, ht7, htf, go_sem, Nat.reduceEqDiff, ↓reduceIte, Bool.false_eq_true, eq_self]
            refine hmi.call ?_
            simp only [go_sem, Nat.reduceEqDiff, ↓reduceIte, Bool.false_eq_true, eq_self]
            exact Here.mk ⟨hle, h1, hb1, h3, h4, h29, h30, h31, rfl⟩
      clear hle h1 hb1 h3 h4 h29 h30 h31 h6 hb6
      rintro f A ⟨hle, h1, hb1, h3, h4, h29, h30, h31, h49⟩
      refine nwp_test _ h49 (fun hc => ?_) fun hc => ?_
      · have := hbad hc
        subst this
        simp only [n_flatten_Check_r8, hle, go_sem, ↓reduceIte, eq_self]
      · exact ⟨⟨by rw [hnext]; exact hc, hle, h1, hb1, h3, h4, h29⟩, h31, h30⟩
    · rintro f A ⟨hany, hle, h1, hb1, h3, h4, h29⟩
      rw [List.take_of_length_le (Nat.le_refl _)] at hany
      exact ⟨hany, hle, h1, hb1, h3, h4⟩
  clear hle h1 hb1 h3 h4
  rintro f A ⟨hc2, hle, h1, hb1, h3, h4⟩
  rw [if_neg (by rw [hc2]; exact Bool.false_ne_true)] at hO
  have hmays : ∀ p ∈ funs, p.2.flatMay funs = true := fun p hp => by
    have := List.any_eq_false.1 hc2 p hp
    simp only [funBad, Bool.or_eq_true, not_or, Bool.not_eq_true', Bool.not_eq_false] at this
    exact this.2.2
  -- the functions, by their variables
  refine nwp_cut (fun f A => A0.le A ∧ f 3 = .bool (T1 || funs.any fun p => p.2.twice p.1 true) ∧ f 4 = .bool (M1 || funs.any fun p => p.2.missing p.1 true)) ?_ ?_
  · refine nwp_then (fun f A => A0.le A ∧ f 3 = .bool T1 ∧ f 4 = .bool M1 ∧ f 52 = fv ∧ f 53 = .int .i64 funs.length ∧ f 54 = .int .i64 0) ?_ ?_
    · simp only [n_flatten_Check_r11, h1, hb1, hlf, go_sem, ↓reduceIte, eq_self]
      exact Here.mk ⟨hle, h3, h4, rfl, rfl, rfl⟩
    clear hle h1 hb1 h3 h4
    rintro f A ⟨hle, h3, h4, h52, h53, h54⟩
    refine nwp_for (ti := 54) (tn := 53) (tt := 55) (tw := 74) (id := 2) (id2 := 3) funs.length (by omega) (fun i f A => A0.le A ∧ f 3 = .bool (T1 || (funs.take i).any fun p => p.2.twice p.1 true) ∧ f 4 = .bool (M1 || (funs.take i).any fun p => p.2.missing p.1 true) ∧ f 52 = fv) (by decide) ?_ h54 h53 ⟨hle, by rw [h3]; simp, by rw [h4]; simp, h52⟩ ?_ ?_
    · rintro i f A d v hd ⟨q1, q2, q3, q4⟩
      rcases hd with rfl | rfl | rfl
      all_goals exact ⟨q1, q2, q3, q4⟩
    · rintro i f A hi ⟨hle, h3, h4, h52⟩ h54 h53
      have hixi := hix i hi
      rw [any_take_succ _ _ _ hi, any_take_succ _ _ _ hi, ← Bool.or_assoc, ← Bool.or_assoc]
      generalize (T1 || (funs.take i).any fun p => p.2.twice p.1 true) = T2 at h3 ⊢
      generalize (M1 || (funs.take i).any fun p => p.2.missing p.1 true) = M2 at h4 ⊢
      have hmi := hth funs[i].2 funs[i].1 true (hfs _ (List.getElem_mem hi)) (hmays _ (List.getElem_mem hi))
      generalize funs[i] = p at hixi hmi ⊢
      obtain ⟨pn, pc⟩ := p
      simp only at hixi hmi ⊢
      have ht8 := take8 (.int .i64 pn) pc
      have ht7 := take1 (.int .i64 pn) pc
      have hcl := pc.enc_cells
      have hone := pc.one_enc
      generalize pc.enc = ce at hixi hmi ht8 ht7 hcl hone
      generalize pc.twice pn true = PT at hmi ⊢
      generalize pc.missing pn true = PM at hmi ⊢
      refine nwp_then (fun f A => ∃ b8, A0.le A ∧ f 3 = .bool T2 ∧ f 4 = .bool M2 ∧ f 52 = fv ∧ f 53 = .int .i64 funs.length ∧ f 54 = .int .i64 i ∧ f 8 = .ptr b8 0 ∧ A b8 = some (.cells (.int .i64 pn :: ce.cells))) ?_ ?_
      · simp only [n_flatten_Check_r13, h52, h54, hixi, ht8, hcl, hone, go_sem, Nat.reduceEqDiff, Nat.reduceAdd, Nat.reduceLeDiff, ↓reduceIte, eq_self]
        intro b6 hb6
        refine Here.mk ⟨b6, ?_, h3, h4, h52, h53, h54, rfl, ?_⟩
        · exact hle.set hb6
        · exact Heap.set_same _ _ _
      clear hle h3 h4 h52 h53 h54
      rintro f A ⟨b8, hle, h3, h4, h52, h53, h54, h8, hb8⟩
      refine nwp_then (fun f A => A0.le A ∧ f 3 = .bool T2 ∧ f 4 = .bool M2 ∧ f 52 = fv ∧ f 53 = .int .i64 funs.length ∧ f 54 = .int .i64 i ∧ f 9 = .bool PT ∧ f 10 = .bool PM) ?_ ?_
      · simp only [n_flatten_Check_r14, h8, hb8, ht7, go_sem, Nat.reduceEqDiff, ↓reduceIte, eq_self]
        refine hmi.call ?_
        simp only [go_sem, Nat.reduceEqDiff, ↓reduceIte, eq_self]
        exact Here.mk ⟨hle, h3, h4, h52, h53, h54, rfl, rfl⟩
      clear hle h3 h4 h52 h53 h54 h8 hb8
      rintro f A ⟨hle, h3, h4, h52, h53, h54, h9, h10⟩
      refine nwp_last (fun f A => A0.le A ∧ f 3 = .bool (T2 || PT) ∧ f 4 = .bool (M2 || PM) ∧ f 52 = fv ∧ f 53 = .int .i64 funs.length ∧ f 54 = .int .i64 i) ?_ fun f A ⟨q1, q2, q3, q4, q5, q6⟩ => ⟨⟨q1, q2, q3, q4⟩, q6, q5⟩
      cases T2 <;> cases M2
      all_goals
        simp only [n_flatten_Check_r15, h3, h4, h9, h10, go_sem, Nat.reduceEqDiff, ↓reduceIte, Bool.false_eq_true, eq_self]
        exact Here.mk ⟨hle, rfl, rfl, h52, h53, h54⟩
    · rintro f A ⟨hle, h3, h4, h52⟩
      rw [List.take_of_length_le (Nat.le_refl _)] at h3 h4
      exact ⟨hle, h3, h4⟩
  clear hle h1 hb1 h3 h4
  generalize (T1 || funs.any fun p => p.2.twice p.1 true) = T at hO ⊢
  generalize (M1 || funs.any fun p => p.2.missing p.1 true) = M at hO ⊢
  rintro f A ⟨hle, h3, h4⟩
  refine nwp_cut (fun f A => O = 0 ∧ A0.le A) ?_ ?_
  · refine nwp_block ?_
    refine nwp_then (fun f A => A0.le A ∧ f 4 = .bool M ∧ f 75 = .bool T) ?_ ?_
    · simp only [n_flatten_Check_r18, h3, go_sem, ↓reduceIte, eq_self]
      exact Here.mk ⟨hle, h4, rfl⟩
    clear hle h3 h4
    rintro f A ⟨hle, h4, h75⟩
    refine nwp_test _ h75 (fun hc => ?_) fun hc => ?_
    · rw [if_pos hc] at hO
      subst hO
      simp only [n_flatten_Check_r19, hle, go_sem, Int.reduceEq, ↓reduceIte, eq_self]
    rw [if_neg (by rw [hc]; exact Bool.false_ne_true)] at hO
    refine nwp_then (fun f A => A0.le A ∧ f 77 = .bool M) ?_ ?_
    · simp only [n_flatten_Check_r20, h4, go_sem, ↓reduceIte, eq_self]
      exact Here.mk ⟨hle, rfl⟩
    clear hle h4 h75
    rintro f A ⟨hle, h77⟩
    refine nwp_test _ h77 (fun hc => ?_) fun hc => ?_
    · rw [if_pos hc] at hO
      subst hO
      simp only [n_flatten_Check_r21, hle, go_sem, Int.reduceEq, ↓reduceIte, eq_self]
    · rw [if_neg (by rw [hc]; exact Bool.false_ne_true)] at hO
      exact ⟨hO.symm, hle⟩
  clear hle h3 h4
  rintro f A ⟨rfl, hle⟩
  simp only [n_flatten_Check_r22, hle, go_sem, ↓reduceIte, eq_self]
end Go.NL

set_option maxRecDepth 100000
namespace Go.NL
open Go.Proofs
abbrev F_gimletlaw26_FlattenChecks : Nat := 4
@[go_sem] def n_gimletlaw26_FlattenChecks_r0 : List NI := [
 ⟨0, some 1, none, .box (.tmp 0), []⟩,
 ⟨1, some 2, none, .move (.const (.bool false)), []⟩]
@[go_sem] def n_gimletlaw26_FlattenChecks_r1 : List NI := [
 ⟨0, some 5, none, .load (some 8) (.tmp 1), []⟩,
 ⟨1, some 6, none, .call (.const (.func 9 [] [])) [(.tmp 5), (.const (.int .i64 400))], []⟩]
@[go_sem] def n_gimletlaw26_FlattenChecks_r2 : List NI := [
 ⟨0, some 7, none, .call (.const (.func 7 [] [])) [], []⟩,
 ⟨1, some 2, none, .move (.tmp 7), []⟩]
@[go_sem] def n_gimletlaw26_FlattenChecks_r3 : List NI := [
 ⟨0, some 8, none, .load (some 8) (.tmp 1), []⟩,
 ⟨1, some 9, none, .call (.const (.func 10 [] [])) [(.tmp 8)], []⟩,
 ⟨2, some 3, none, .zero [.nilslice, (.int .i64 0), (.int .i64 0), (.int .i64 0), (.str []), .nilslice, .nilslice, .nilslice], []⟩,
 ⟨3, none, none, .store 8 (.tmp 3) (.tmp 9), []⟩]
@[go_sem] def n_gimletlaw26_FlattenChecks_r4 : List NI := [
 ⟨0, some 10, none, .load (some 8) (.tmp 3), []⟩,
 ⟨2, some 12, none, .load (some 8) (.tmp 1), []⟩,
 ⟨1, some 11, none, .call (.const (.func 8 [] [])) [(.tmp 10)], [((some 12), none, .load (some 8) (.tmp 1))]⟩,
 ⟨3, some 13, none, .call (.const (.func 11 [] [])) [(.tmp 12)], []⟩,
 ⟨4, some 14, none, .bin .eql (some .int) (.tmp 11) (.tmp 13), []⟩,
 ⟨5, some 15, none, .move (.tmp 14), []⟩,
 ⟨6, some 16, some (15, true), .load (some 8) (.tmp 3), []⟩,
 ⟨8, some 18, some (15, true), .load (some 8) (.tmp 1), []⟩,
 ⟨7, some 17, some (15, true), .call (.const (.func 13 [] [])) [(.tmp 16)], [((some 18), (some (15, true)), .load (some 8) (.tmp 1))]⟩,
 ⟨9, some 19, some (15, true), .call (.const (.func 14 [] [])) [(.tmp 18)], []⟩,
 ⟨10, some 20, some (15, true), .call (.const (.func 12 [] [])) [(.tmp 17), (.tmp 19)], []⟩,
 ⟨11, some 21, none, .pick (.tmp 15) (.tmp 20) (.const (.bool false)), []⟩,
 ⟨12, some 4, none, .move (.tmp 21), []⟩]
@[go_sem] def n_gimletlaw26_FlattenChecks_r5 : List NI := [
 ⟨0, some 22, none, .move (.tmp 4), []⟩,
 ⟨1, some 23, none, .move (.tmp 22), []⟩,
 ⟨2, some 24, some (23, true), .load (some 8) (.tmp 3), []⟩,
 ⟨3, some 25, some (23, true), .load (some 8) (.tmp 1), []⟩,
 ⟨4, some 26, some (23, true), .call (.const (.func 15 [] [])) [(.tmp 24), (.tmp 25)], []⟩,
 ⟨5, some 27, none, .pick (.tmp 23) (.tmp 26) (.const (.bool false)), []⟩,
 ⟨6, some 28, none, .move (.tmp 27), []⟩,
 ⟨7, some 29, some (28, true), .call (.const (.func 7 [] [])) [], []⟩,
 ⟨8, some 30, none, .pick (.tmp 28) (.tmp 29) (.const (.bool false)), []⟩,
 ⟨9, some 2, none, .move (.tmp 30), []⟩]
@[go_sem] def n_gimletlaw26_FlattenChecks : NFn := ⟨1, 31, [.slot 2], (.seq (.region n_gimletlaw26_FlattenChecks_r0 []) (.seq (.seq (.region n_gimletlaw26_FlattenChecks_r1 []) (.cond (.tmp 6) (.seq (.region n_gimletlaw26_FlattenChecks_r2 []) .ret) .skip)) (.seq (.region n_gimletlaw26_FlattenChecks_r3 []) (.seq (.region n_gimletlaw26_FlattenChecks_r4 []) (.seq (.region n_gimletlaw26_FlattenChecks_r5 []) .ret)))))⟩
theorem c_gimletlaw26_FlattenChecks : compFn Try.prog F_gimletlaw26_FlattenChecks = some n_gimletlaw26_FlattenChecks := by kernel_rfl
abbrev F_gimletkit_LargeFlat : Nat := 9
@[go_sem] def n_gimletkit_LargeFlat_r0 : List NI := [
 ⟨0, some 2, none, .box (.tmp 0), []⟩,
 ⟨1, some 4, none, .move (.const (.bool false)), []⟩]
@[go_sem] def n_gimletkit_LargeFlat_r1 : List NI := [
 ⟨0, some 7, none, .fieldAddr 1 (.tmp 2), []⟩,
 ⟨1, some 8, none, .load (some 7) (.tmp 7), []⟩,
 ⟨2, some 9, none, .move (.tmp 1), []⟩,
 ⟨3, some 10, none, .call (.const (.func 24 [] [])) [(.tmp 8), (.tmp 9)], []⟩,
 ⟨4, some 5, none, .move (.tmp 10), []⟩]
@[go_sem] def n_gimletkit_LargeFlat_r2 : List NI := [
 ⟨0, some 6, none, .move (.const (.int .i64 0)), []⟩]
@[go_sem] def n_gimletkit_LargeFlat_r3 : List NI := [
 ⟨0, some 11, none, .move (.tmp 6), []⟩,
 ⟨1, some 12, none, .fieldAddr 0 (.tmp 2), []⟩,
 ⟨2, some 13, none, .load none (.tmp 12), []⟩,
 ⟨3, some 14, none, .len .slice (.tmp 13), []⟩,
 ⟨4, some 15, none, .bin .lss (some .int) (.tmp 11) (.tmp 14), []⟩,
 ⟨5, some 16, none, .move (.tmp 15), []⟩,
 ⟨6, some 17, some (16, true), .move (.tmp 5), []⟩,
 ⟨7, some 18, some (16, true), .move (.tmp 1), []⟩,
 ⟨8, some 19, some (16, true), .bin .leq (some .int) (.tmp 17) (.tmp 18), []⟩,
 ⟨9, some 20, none, .pick (.tmp 16) (.tmp 19) (.const (.bool false)), []⟩]
@[go_sem] def n_gimletkit_LargeFlat_r4 : List NI := [
 ⟨0, some 23, none, .move (.tmp 5), []⟩,
 ⟨1, some 24, none, .fieldAddr 0 (.tmp 2), []⟩,
 ⟨2, some 25, none, .load none (.tmp 24), []⟩,
 ⟨3, some 26, none, .move (.tmp 6), []⟩,
 ⟨4, some 27, none, .indexAddr 8 none (.tmp 25) (.tmp 26), []⟩,
 ⟨5, some 28, none, .fieldAddr 1 (.tmp 27), []⟩,
 ⟨6, some 29, none, .load (some 7) (.tmp 28), []⟩,
 ⟨7, some 30, none, .move (.tmp 1), []⟩,
 ⟨8, some 31, none, .move (.tmp 5), []⟩,
 ⟨9, some 32, none, .bin .sub (some .int) (.tmp 30) (.tmp 31), []⟩,
 ⟨10, some 33, none, .call (.const (.func 24 [] [])) [(.tmp 29), (.tmp 32)], []⟩,
 ⟨11, some 34, none, .bin .add (some .int) (.tmp 23) (.tmp 33), []⟩,
 ⟨12, some 5, none, .move (.tmp 34), []⟩]
@[go_sem] def n_gimletkit_LargeFlat_r5 : List NI := [
 ⟨0, some 21, none, .move (.tmp 6), []⟩,
 ⟨1, some 22, none, .bin .add (some .int) (.tmp 21) (.const (.int .i64 1)), []⟩,
 ⟨2, some 6, none, .move (.tmp 22), []⟩]
def n_gimletkit_LargeFlat_l6 : NC := (.seq (.seq (.region n_gimletkit_LargeFlat_r3 []) (.cond (.tmp 20) .skip (.exit 0))) (.seq (.block 1 (.region n_gimletkit_LargeFlat_r4 [])) (.region n_gimletkit_LargeFlat_r5 [])))
@[go_sem] def n_gimletkit_LargeFlat_r7 : List NI := [
 ⟨0, some 35, none, .move (.tmp 5), []⟩,
 ⟨1, some 36, none, .move (.tmp 1), []⟩,
 ⟨2, some 37, none, .bin .gtr (some .int) (.tmp 35) (.tmp 36), []⟩,
 ⟨3, some 4, none, .move (.tmp 37), []⟩]
@[go_sem] def n_gimletkit_LargeFlat : NFn := ⟨2, 38, [.slot 4], (.seq (.region n_gimletkit_LargeFlat_r0 []) (.seq (.region n_gimletkit_LargeFlat_r1 []) (.seq (.seq (.region n_gimletkit_LargeFlat_r2 []) (.block 0 (.loop n_gimletkit_LargeFlat_l6))) (.seq (.region n_gimletkit_LargeFlat_r7 []) .ret))))⟩
theorem c_gimletkit_LargeFlat : compFn Try.prog F_gimletkit_LargeFlat = some n_gimletkit_LargeFlat := by kernel_rfl
abbrev F_gimletkit_CopyFlat : Nat := 10
@[go_sem] def n_gimletkit_CopyFlat_r0 : List NI := [
 ⟨0, some 1, none, .box (.tmp 0), []⟩,
 ⟨1, some 2, none, .zero [.nilslice, (.int .i64 0), (.int .i64 0), (.int .i64 0), (.str []), .nilslice, .nilslice, .nilslice], []⟩]
@[go_sem] def n_gimletkit_CopyFlat_r1 : List NI := [
 ⟨0, some 5, none, .fieldAddr 1 (.tmp 1), []⟩,
 ⟨1, some 6, none, .load (some 7) (.tmp 5), []⟩,
 ⟨2, some 7, none, .call (.const (.func 25 [] [])) [(.tmp 6)], []⟩,
 ⟨3, some 8, none, .build [.nilslice, (.int .i64 0), (.int .i64 0), (.int .i64 0), (.str []), .nilslice, .nilslice, .nilslice] [(1, 7, (.tmp 7))], []⟩,
 ⟨4, some 3, none, .zero [.nilslice, (.int .i64 0), (.int .i64 0), (.int .i64 0), (.str []), .nilslice, .nilslice, .nilslice], []⟩,
 ⟨5, none, none, .store 8 (.tmp 3) (.tmp 8), []⟩]
@[go_sem] def n_gimletkit_CopyFlat_r2 : List NI := [
 ⟨0, some 4, none, .move (.const (.int .i64 0)), []⟩]
@[go_sem] def n_gimletkit_CopyFlat_r3 : List NI := [
 ⟨0, some 9, none, .move (.tmp 4), []⟩,
 ⟨1, some 10, none, .fieldAddr 0 (.tmp 1), []⟩,
 ⟨2, some 11, none, .load none (.tmp 10), []⟩,
 ⟨3, some 12, none, .len .slice (.tmp 11), []⟩,
 ⟨4, some 13, none, .bin .lss (some .int) (.tmp 9) (.tmp 12), []⟩]
@[go_sem] def n_gimletkit_CopyFlat_r4 : List NI := [
 ⟨0, some 16, none, .fieldAddr 0 (.tmp 3), []⟩,
 ⟨1, some 17, none, .load none (.tmp 16), []⟩,
 ⟨2, some 18, none, .fieldAddr 0 (.tmp 1), []⟩,
 ⟨3, some 19, none, .load none (.tmp 18), []⟩,
 ⟨4, some 20, none, .move (.tmp 4), []⟩,
 ⟨5, some 21, none, .indexAddr 8 none (.tmp 19) (.tmp 20), []⟩,
 ⟨6, some 22, none, .fieldAddr 0 (.tmp 21), []⟩,
 ⟨7, some 23, none, .load none (.tmp 22), []⟩,
 ⟨8, some 24, none, .fieldAddr 0 (.tmp 1), []⟩,
 ⟨9, some 25, none, .load none (.tmp 24), []⟩,
 ⟨10, some 26, none, .move (.tmp 4), []⟩,
 ⟨11, some 27, none, .indexAddr 8 none (.tmp 25) (.tmp 26), []⟩,
 ⟨12, some 28, none, .fieldAddr 1 (.tmp 27), []⟩,
 ⟨13, some 29, none, .load (some 7) (.tmp 28), []⟩,
 ⟨14, some 30, none, .call (.const (.func 25 [] [])) [(.tmp 29)], [((some 17), none, .load none (.tmp 16)), ((some 19), none, .load none (.tmp 18)), ((some 23), none, .load none (.tmp 22))]⟩,
 ⟨15, some 31, none, .build [(.int .i64 0), (.int .i64 0), (.int .i64 0), (.int .i64 0), (.str []), .nilslice, .nilslice, .nilslice] [(0, 1, (.tmp 23)), (1, 7, (.tmp 30))], []⟩,
 ⟨16, some 32, none, .buildSlice 8 1 [(.int .i64 0), (.int .i64 0), (.int .i64 0), (.int .i64 0), (.str []), .nilslice, .nilslice, .nilslice] [(0, 8, (.tmp 31))], [((some 17), none, .load none (.tmp 16))]⟩,
 ⟨17, some 33, none, .append false 8 120 (.tmp 17) (.tmp 32), []⟩,
 ⟨18, some 34, none, .fieldAddr 0 (.tmp 3), []⟩,
 ⟨19, none, none, .store 1 (.tmp 34) (.tmp 33), []⟩]
@[go_sem] def n_gimletkit_CopyFlat_r5 : List NI := [
 ⟨0, some 14, none, .move (.tmp 4), []⟩,
 ⟨1, some 15, none, .bin .add (some .int) (.tmp 14) (.const (.int .i64 1)), []⟩,
 ⟨2, some 4, none, .move (.tmp 15), []⟩]
def n_gimletkit_CopyFlat_l6 : NC := (.seq (.seq (.region n_gimletkit_CopyFlat_r3 []) (.cond (.tmp 13) .skip (.exit 0))) (.seq (.block 1 (.region n_gimletkit_CopyFlat_r4 [])) (.region n_gimletkit_CopyFlat_r5 [])))
@[go_sem] def n_gimletkit_CopyFlat_r7 : List NI := [
 ⟨0, some 35, none, .load (some 8) (.tmp 3), []⟩,
 ⟨1, none, none, .store 8 (.tmp 2) (.tmp 35), []⟩]
@[go_sem] def n_gimletkit_CopyFlat : NFn := ⟨1, 36, [.cell 2 (some 8)], (.seq (.region n_gimletkit_CopyFlat_r0 []) (.seq (.region n_gimletkit_CopyFlat_r1 []) (.seq (.seq (.region n_gimletkit_CopyFlat_r2 []) (.block 0 (.loop n_gimletkit_CopyFlat_l6))) (.seq (.region n_gimletkit_CopyFlat_r7 []) .ret))))⟩
theorem c_gimletkit_CopyFlat : compFn Try.prog F_gimletkit_CopyFlat = some n_gimletkit_CopyFlat := by kernel_rfl
abbrev F_gimletref26_Check : Nat := 11
@[go_sem] def n_gimletref26_Check_r0 : List NI := [
 ⟨0, some 1, none, .box (.tmp 0), []⟩,
 ⟨1, some 2, none, .move (.const (.int .i64 0)), []⟩]
@[go_sem] def n_gimletref26_Check_r1 : List NI := [
 ⟨0, some 7, none, .fieldAddr 0 (.tmp 1), []⟩,
 ⟨1, some 8, none, .load none (.tmp 7), []⟩,
 ⟨2, some 9, none, .len .slice (.tmp 8), []⟩,
 ⟨3, some 10, none, .bin .gtr (some .int) (.tmp 9) (.const (.int .i64 16384)), []⟩,
 ⟨4, some 11, none, .move (.tmp 10), []⟩,
 ⟨5, some 12, some (11, false), .load (some 8) (.tmp 1), []⟩,
 ⟨6, some 13, some (11, false), .call (.const (.func 26 [] [])) [(.tmp 12)], []⟩,
 ⟨7, some 14, some (11, false), .un .not (.tmp 13), []⟩,
 ⟨8, some 15, none, .pick (.tmp 11) (.const (.bool true)) (.tmp 14), []⟩]
@[go_sem] def n_gimletref26_Check_r2 : List NI := [
 ⟨0, some 2, none, .move (.const (.int .i64 2)), []⟩]
@[go_sem] def n_gimletref26_Check_r3 : List NI := [
 ⟨0, some 16, none, .fieldAddr 1 (.tmp 1), []⟩,
 ⟨1, some 17, none, .load (some 7) (.tmp 16), []⟩,
 ⟨4, some 20, none, .fieldAddr 1 (.tmp 1), []⟩,
 ⟨5, some 21, none, .load (some 7) (.tmp 20), []⟩,
 ⟨2, some 18, none, .call (.const (.func 28 [] [])) [(.tmp 17)], [((some 21), none, .load (some 7) (.tmp 20))]⟩,
 ⟨3, some 19, none, .call (.const (.func 27 [] [])) [(.tmp 18), (.const (.int .i64 (-1)))], [((some 21), none, .load (some 7) (.tmp 20))]⟩,
 ⟨6, some 22, none, .call (.const (.func 29 [] [])) [(.tmp 21), (.const (.int .i64 (-1))), (.const .nilslice)], []⟩,
 ⟨7, some 23, none, .un .not (.tmp 22), []⟩,
 ⟨8, some 3, none, .move (.tmp 19), []⟩,
 ⟨9, some 4, none, .move (.tmp 23), []⟩]
@[go_sem] def n_gimletref26_Check_r4 : List NI := [
 ⟨0, some 5, none, .move (.const (.int .i64 0)), []⟩]
@[go_sem] def n_gimletref26_Check_r5 : List NI := [
 ⟨0, some 24, none, .move (.tmp 5), []⟩,
 ⟨1, some 25, none, .fieldAddr 0 (.tmp 1), []⟩,
 ⟨2, some 26, none, .load none (.tmp 25), []⟩,
 ⟨3, some 27, none, .len .slice (.tmp 26), []⟩,
 ⟨4, some 28, none, .bin .lss (some .int) (.tmp 24) (.tmp 27), []⟩]
@[go_sem] def n_gimletref26_Check_r6 : List NI := [
 ⟨0, some 31, none, .fieldAddr 0 (.tmp 1), []⟩,
 ⟨1, some 32, none, .load none (.tmp 31), []⟩,
 ⟨2, some 33, none, .move (.tmp 5), []⟩,
 ⟨3, some 34, none, .indexAddr 8 none (.tmp 32) (.tmp 33), []⟩,
 ⟨4, some 35, none, .load (some 8) (.tmp 34), []⟩,
 ⟨5, some 6, none, .zero [(.int .i64 0), (.int .i64 0), (.int .i64 0), (.int .i64 0), (.str []), .nilslice, .nilslice, .nilslice], []⟩,
 ⟨6, none, none, .store 8 (.tmp 6) (.tmp 35), []⟩]
@[go_sem] def n_gimletref26_Check_r7 : List NI := [
 ⟨0, some 36, none, .move (.tmp 3), []⟩,
 ⟨1, some 37, none, .move (.tmp 36), []⟩,
 ⟨2, some 38, some (37, false), .fieldAddr 1 (.tmp 6), []⟩,
 ⟨3, some 39, some (37, false), .load (some 7) (.tmp 38), []⟩,
 ⟨5, some 41, some (37, false), .fieldAddr 0 (.tmp 6), []⟩,
 ⟨6, some 42, some (37, false), .load none (.tmp 41), []⟩,
 ⟨4, some 40, some (37, false), .call (.const (.func 28 [] [])) [(.tmp 39)], [((some 42), (some (37, false)), .load none (.tmp 41))]⟩,
 ⟨7, some 43, some (37, false), .call (.const (.func 27 [] [])) [(.tmp 40), (.tmp 42)], []⟩,
 ⟨8, some 44, none, .pick (.tmp 37) (.const (.bool true)) (.tmp 43), []⟩,
 ⟨9, some 3, none, .move (.tmp 44), []⟩]
@[go_sem] def n_gimletref26_Check_r8 : List NI := [
 ⟨0, some 45, none, .move (.tmp 4), []⟩,
 ⟨1, some 46, none, .move (.tmp 45), []⟩,
 ⟨2, some 47, some (46, false), .fieldAddr 1 (.tmp 6), []⟩,
 ⟨3, some 48, some (46, false), .load (some 7) (.tmp 47), []⟩,
 ⟨4, some 49, some (46, false), .fieldAddr 0 (.tmp 6), []⟩,
 ⟨5, some 50, some (46, false), .load none (.tmp 49), []⟩,
 ⟨6, some 51, some (46, false), .call (.const (.func 29 [] [])) [(.tmp 48), (.tmp 50), (.const .nilslice)], []⟩,
 ⟨7, some 52, some (46, false), .un .not (.tmp 51), []⟩,
 ⟨8, some 53, none, .pick (.tmp 46) (.const (.bool true)) (.tmp 52), []⟩,
 ⟨9, some 4, none, .move (.tmp 53), []⟩]
@[go_sem] def n_gimletref26_Check_r9 : List NI := [
 ⟨0, some 29, none, .move (.tmp 5), []⟩,
 ⟨1, some 30, none, .bin .add (some .int) (.tmp 29) (.const (.int .i64 1)), []⟩,
 ⟨2, some 5, none, .move (.tmp 30), []⟩]
def n_gimletref26_Check_l10 : NC := (.seq (.seq (.region n_gimletref26_Check_r5 []) (.cond (.tmp 28) .skip (.exit 0))) (.seq (.block 1 (.seq (.region n_gimletref26_Check_r6 []) (.seq (.region n_gimletref26_Check_r7 []) (.region n_gimletref26_Check_r8 [])))) (.region n_gimletref26_Check_r9 [])))
@[go_sem] def n_gimletref26_Check_r11 : List NI := [
 ⟨0, some 54, none, .move (.tmp 3), []⟩]
@[go_sem] def n_gimletref26_Check_r12 : List NI := [
 ⟨0, some 2, none, .move (.const (.int .i64 7)), []⟩]
@[go_sem] def n_gimletref26_Check_r13 : List NI := [
 ⟨0, some 55, none, .move (.tmp 4), []⟩]
@[go_sem] def n_gimletref26_Check_r14 : List NI := [
 ⟨0, some 2, none, .move (.const (.int .i64 6)), []⟩]
@[go_sem] def n_gimletref26_Check_r15 : List NI := [
 ⟨0, some 2, none, .move (.const (.int .i64 0)), []⟩]
@[go_sem] def n_gimletref26_Check : NFn := ⟨1, 56, [.slot 2], (.seq (.region n_gimletref26_Check_r0 []) (.seq (.seq (.region n_gimletref26_Check_r1 []) (.cond (.tmp 15) (.seq (.region n_gimletref26_Check_r2 []) .ret) .skip)) (.seq (.region n_gimletref26_Check_r3 []) (.seq (.seq (.region n_gimletref26_Check_r4 []) (.block 0 (.loop n_gimletref26_Check_l10))) (.seq (.seq (.region n_gimletref26_Check_r11 []) (.cond (.tmp 54) (.seq (.region n_gimletref26_Check_r12 []) .ret) .skip)) (.seq (.seq (.region n_gimletref26_Check_r13 []) (.cond (.tmp 55) (.seq (.region n_gimletref26_Check_r14 []) .ret) .skip)) (.seq (.region n_gimletref26_Check_r15 []) .ret)))))))⟩
theorem c_gimletref26_Check : compFn Try.prog F_gimletref26_Check = some n_gimletref26_Check := by kernel_rfl
abbrev F_gimletkit_SameInts : Nat := 12
@[go_sem] def n_gimletkit_SameInts_r0 : List NI := [
 ⟨0, some 4, none, .move (.const (.bool false)), []⟩]
@[go_sem] def n_gimletkit_SameInts_r1 : List NI := [
 ⟨0, some 6, none, .move (.tmp 0), []⟩,
 ⟨1, some 7, none, .len .slice (.tmp 6), []⟩,
 ⟨2, some 8, none, .move (.tmp 1), []⟩,
 ⟨3, some 9, none, .len .slice (.tmp 8), []⟩,
 ⟨4, some 10, none, .bin .neq (some .int) (.tmp 7) (.tmp 9), []⟩]
@[go_sem] def n_gimletkit_SameInts_r2 : List NI := [
 ⟨0, some 4, none, .move (.const (.bool false)), []⟩]
@[go_sem] def n_gimletkit_SameInts_r3 : List NI := [
 ⟨0, some 5, none, .move (.const (.int .i64 0)), []⟩]
@[go_sem] def n_gimletkit_SameInts_r4 : List NI := [
 ⟨0, some 11, none, .move (.tmp 5), []⟩,
 ⟨1, some 12, none, .move (.tmp 0), []⟩,
 ⟨2, some 13, none, .len .slice (.tmp 12), []⟩,
 ⟨3, some 14, none, .bin .lss (some .int) (.tmp 11) (.tmp 13), []⟩]
@[go_sem] def n_gimletkit_SameInts_r5 : List NI := [
 ⟨0, some 17, none, .move (.tmp 0), []⟩,
 ⟨1, some 18, none, .move (.tmp 5), []⟩,
 ⟨2, some 19, none, .indexAddr 1 none (.tmp 17) (.tmp 18), []⟩,
 ⟨3, some 20, none, .load none (.tmp 19), []⟩,
 ⟨4, some 21, none, .move (.tmp 1), []⟩,
 ⟨5, some 22, none, .move (.tmp 5), []⟩,
 ⟨6, some 23, none, .indexAddr 1 none (.tmp 21) (.tmp 22), []⟩,
 ⟨7, some 24, none, .load none (.tmp 23), []⟩,
 ⟨8, some 25, none, .bin .neq (some .int) (.tmp 20) (.tmp 24), []⟩]
@[go_sem] def n_gimletkit_SameInts_r6 : List NI := [
 ⟨0, some 4, none, .move (.const (.bool false)), []⟩]
@[go_sem] def n_gimletkit_SameInts_r7 : List NI := [
 ⟨0, some 15, none, .move (.tmp 5), []⟩,
 ⟨1, some 16, none, .bin .add (some .int) (.tmp 15) (.const (.int .i64 1)), []⟩,
 ⟨2, some 5, none, .move (.tmp 16), []⟩]
def n_gimletkit_SameInts_l8 : NC := (.seq (.seq (.region n_gimletkit_SameInts_r4 []) (.cond (.tmp 14) .skip (.exit 0))) (.seq (.block 1 (.seq (.region n_gimletkit_SameInts_r5 []) (.cond (.tmp 25) (.seq (.region n_gimletkit_SameInts_r6 []) .ret) .skip))) (.region n_gimletkit_SameInts_r7 [])))
@[go_sem] def n_gimletkit_SameInts_r9 : List NI := [
 ⟨0, some 4, none, .move (.const (.bool true)), []⟩]
@[go_sem] def n_gimletkit_SameInts : NFn := ⟨2, 26, [.slot 4], (.seq (.region n_gimletkit_SameInts_r0 []) (.seq (.seq (.region n_gimletkit_SameInts_r1 []) (.cond (.tmp 10) (.seq (.region n_gimletkit_SameInts_r2 []) .ret) .skip)) (.seq (.seq (.region n_gimletkit_SameInts_r3 []) (.block 0 (.loop n_gimletkit_SameInts_l8))) (.seq (.region n_gimletkit_SameInts_r9 []) .ret))))⟩
theorem c_gimletkit_SameInts : compFn Try.prog F_gimletkit_SameInts = some n_gimletkit_SameInts := by kernel_rfl
abbrev F_flatten_Captures : Nat := 13
@[go_sem] def n_flatten_Captures_r0 : List NI := [
 ⟨0, some 1, none, .box (.tmp 0), []⟩,
 ⟨1, some 2, none, .move (.const .nilslice), []⟩]
@[go_sem] def n_flatten_Captures_r1 : List NI := [
 ⟨0, some 9, none, .load (some 8) (.tmp 1), []⟩,
 ⟨1, some 10, none, .call (.const (.func 8 [] [])) [(.tmp 9)], []⟩,
 ⟨2, some 11, none, .bin .neq (some .int) (.tmp 10) (.const (.int .i64 0)), []⟩]
@[go_sem] def n_flatten_Captures_r2 : List NI := [
 ⟨0, some 2, none, .move (.const .nilslice), []⟩]
@[go_sem] def n_flatten_Captures_r3 : List NI := [
 ⟨0, some 3, none, .move (.const .nilslice), []⟩]
@[go_sem] def n_flatten_Captures_r4 : List NI := [
 ⟨0, some 12, none, .fieldAddr 0 (.tmp 1), []⟩,
 ⟨1, some 13, none, .load none (.tmp 12), []⟩,
 ⟨2, some 14, none, .len .slice (.tmp 13), []⟩,
 ⟨3, some 15, none, .move (.const (.int .i64 0)), []⟩]
@[go_sem] def n_flatten_Captures_r5 : List NI := [
 ⟨0, some 16, none, .bin .lss (some .int) (.tmp 15) (.tmp 14), []⟩]
@[go_sem] def n_flatten_Captures_r6 : List NI := [
 ⟨0, some 17, none, .indexAddr 8 none (.tmp 13) (.tmp 15), []⟩,
 ⟨1, some 18, none, .load (some 8) (.tmp 17), []⟩,
 ⟨2, some 5, none, .zero [(.int .i64 0), (.int .i64 0), (.int .i64 0), (.int .i64 0), (.str []), .nilslice, .nilslice, .nilslice], []⟩,
 ⟨3, none, none, .store 8 (.tmp 5) (.tmp 18), []⟩]
@[go_sem] def n_flatten_Captures_r7 : List NI := [
 ⟨0, some 6, none, .move (.const (.int .i64 0)), []⟩]
@[go_sem] def n_flatten_Captures_r8 : List NI := [
 ⟨0, some 19, none, .fieldAddr 1 (.tmp 5), []⟩,
 ⟨1, some 20, none, .load (some 7) (.tmp 19), []⟩,
 ⟨2, some 21, none, .call (.const (.func 30 [] [])) [(.tmp 20)], []⟩,
 ⟨3, some 22, none, .len .slice (.tmp 21), []⟩,
 ⟨4, some 23, none, .move (.const (.int .i64 0)), []⟩]
@[go_sem] def n_flatten_Captures_r9 : List NI := [
 ⟨0, some 24, none, .bin .lss (some .int) (.tmp 23) (.tmp 22), []⟩]
@[go_sem] def n_flatten_Captures_r10 : List NI := [
 ⟨0, some 25, none, .indexAddr 1 none (.tmp 21) (.tmp 23), []⟩,
 ⟨1, some 26, none, .load none (.tmp 25), []⟩,
 ⟨2, some 8, none, .move (.tmp 26), []⟩]
@[go_sem] def n_flatten_Captures_r11 : List NI := [
 ⟨0, some 27, none, .move (.tmp 8), []⟩,
 ⟨1, some 28, none, .bin .gtr (some .int) (.tmp 27) (.const (.int .i64 0)), []⟩]
@[go_sem] def n_flatten_Captures_r12 : List NI := [
 ⟨0, some 29, none, .move (.tmp 6), []⟩,
 ⟨1, some 30, none, .bin .add (some .int) (.tmp 29) (.const (.int .i64 1)), []⟩,
 ⟨2, some 6, none, .move (.tmp 30), []⟩]
@[go_sem] def n_flatten_Captures_r13 : List NI := [
 ⟨0, some 31, none, .bin .add (some .int) (.tmp 23) (.const (.int .i64 1)), []⟩,
 ⟨1, some 23, none, .move (.tmp 31), []⟩]
def n_flatten_Captures_l14 : NC := (.seq (.region n_flatten_Captures_r9 []) (.seq (.cond (.tmp 24) .skip (.exit 2)) (.seq (.block 3 (.seq (.region n_flatten_Captures_r10 []) (.seq (.region n_flatten_Captures_r11 []) (.cond (.tmp 28) (.region n_flatten_Captures_r12 []) .skip)))) (.region n_flatten_Captures_r13 []))))
@[go_sem] def n_flatten_Captures_r15 : List NI := [
 ⟨0, some 32, none, .move (.tmp 3), []⟩,
 ⟨1, some 33, none, .move (.tmp 6), []⟩,
 ⟨2, some 34, none, .buildSlice 1 1 [(.int .i64 0)] [(0, 1, (.tmp 33))], []⟩,
 ⟨3, some 35, none, .append false 1 8 (.tmp 32) (.tmp 34), []⟩,
 ⟨4, some 3, none, .move (.tmp 35), []⟩]
@[go_sem] def n_flatten_Captures_r16 : List NI := [
 ⟨0, some 36, none, .bin .add (some .int) (.tmp 15) (.const (.int .i64 1)), []⟩,
 ⟨1, some 15, none, .move (.tmp 36), []⟩]
def n_flatten_Captures_l17 : NC := (.seq (.region n_flatten_Captures_r5 []) (.seq (.cond (.tmp 16) .skip (.exit 0)) (.seq (.block 1 (.seq (.region n_flatten_Captures_r6 []) (.seq (.region n_flatten_Captures_r7 []) (.seq (.seq (.region n_flatten_Captures_r8 []) (.block 2 (.loop n_flatten_Captures_l14))) (.region n_flatten_Captures_r15 []))))) (.region n_flatten_Captures_r16 []))))
@[go_sem] def n_flatten_Captures_r18 : List NI := [
 ⟨0, some 37, none, .move (.tmp 3), []⟩,
 ⟨1, some 2, none, .move (.tmp 37), []⟩]
@[go_sem] def n_flatten_Captures : NFn := ⟨1, 38, [.slot 2], (.seq (.region n_flatten_Captures_r0 []) (.seq (.seq (.region n_flatten_Captures_r1 []) (.cond (.tmp 11) (.seq (.region n_flatten_Captures_r2 []) .ret) .skip)) (.seq (.region n_flatten_Captures_r3 []) (.seq (.seq (.region n_flatten_Captures_r4 []) (.block 0 (.loop n_flatten_Captures_l17))) (.seq (.region n_flatten_Captures_r18 []) .ret)))))⟩
theorem c_flatten_Captures : compFn Try.prog F_flatten_Captures = some n_flatten_Captures := by kernel_rfl
abbrev F_gimletref26_Captures : Nat := 14
@[go_sem] def n_gimletref26_Captures_r0 : List NI := [
 ⟨0, some 1, none, .box (.tmp 0), []⟩,
 ⟨1, some 2, none, .move (.const .nilslice), []⟩]
@[go_sem] def n_gimletref26_Captures_r1 : List NI := [
 ⟨0, some 6, none, .load (some 8) (.tmp 1), []⟩,
 ⟨1, some 7, none, .call (.const (.func 11 [] [])) [(.tmp 6)], []⟩,
 ⟨2, some 8, none, .bin .neq (some .int) (.tmp 7) (.const (.int .i64 0)), []⟩]
@[go_sem] def n_gimletref26_Captures_r2 : List NI := [
 ⟨0, some 2, none, .move (.const .nilslice), []⟩]
@[go_sem] def n_gimletref26_Captures_r3 : List NI := [
 ⟨0, some 3, none, .move (.const .nilslice), []⟩]
@[go_sem] def n_gimletref26_Captures_r4 : List NI := [
 ⟨0, some 4, none, .move (.const (.int .i64 0)), []⟩]
@[go_sem] def n_gimletref26_Captures_r5 : List NI := [
 ⟨0, some 9, none, .move (.tmp 4), []⟩,
 ⟨1, some 10, none, .fieldAddr 0 (.tmp 1), []⟩,
 ⟨2, some 11, none, .load none (.tmp 10), []⟩,
 ⟨3, some 12, none, .len .slice (.tmp 11), []⟩,
 ⟨4, some 13, none, .bin .lss (some .int) (.tmp 9) (.tmp 12), []⟩]
@[go_sem] def n_gimletref26_Captures_r6 : List NI := [
 ⟨0, some 16, none, .fieldAddr 0 (.tmp 1), []⟩,
 ⟨1, some 17, none, .load none (.tmp 16), []⟩,
 ⟨2, some 18, none, .move (.tmp 4), []⟩,
 ⟨3, some 19, none, .indexAddr 8 none (.tmp 17) (.tmp 18), []⟩,
 ⟨4, some 20, none, .fieldAddr 1 (.tmp 19), []⟩,
 ⟨5, some 21, none, .load (some 7) (.tmp 20), []⟩,
 ⟨6, some 22, none, .fieldAddr 0 (.tmp 1), []⟩,
 ⟨7, some 23, none, .load none (.tmp 22), []⟩,
 ⟨8, some 24, none, .move (.tmp 4), []⟩,
 ⟨9, some 25, none, .indexAddr 8 none (.tmp 23) (.tmp 24), []⟩,
 ⟨10, some 26, none, .fieldAddr 0 (.tmp 25), []⟩,
 ⟨11, some 27, none, .load none (.tmp 26), []⟩,
 ⟨12, some 28, none, .call (.const (.func 31 [] [])) [(.tmp 21), (.tmp 27), (.const .nilslice)], []⟩,
 ⟨13, some 5, none, .move (.tmp 28), []⟩]
@[go_sem] def n_gimletref26_Captures_r7 : List NI := [
 ⟨0, some 29, none, .move (.tmp 3), []⟩,
 ⟨1, some 30, none, .move (.tmp 5), []⟩,
 ⟨2, some 31, none, .len .slice (.tmp 30), []⟩,
 ⟨3, some 32, none, .buildSlice 1 1 [(.int .i64 0)] [(0, 1, (.tmp 31))], []⟩,
 ⟨4, some 33, none, .append false 1 8 (.tmp 29) (.tmp 32), []⟩,
 ⟨5, some 3, none, .move (.tmp 33), []⟩]
@[go_sem] def n_gimletref26_Captures_r8 : List NI := [
 ⟨0, some 14, none, .move (.tmp 4), []⟩,
 ⟨1, some 15, none, .bin .add (some .int) (.tmp 14) (.const (.int .i64 1)), []⟩,
 ⟨2, some 4, none, .move (.tmp 15), []⟩]
def n_gimletref26_Captures_l9 : NC := (.seq (.seq (.region n_gimletref26_Captures_r5 []) (.cond (.tmp 13) .skip (.exit 0))) (.seq (.block 1 (.seq (.region n_gimletref26_Captures_r6 []) (.region n_gimletref26_Captures_r7 []))) (.region n_gimletref26_Captures_r8 [])))
@[go_sem] def n_gimletref26_Captures_r10 : List NI := [
 ⟨0, some 34, none, .move (.tmp 3), []⟩,
 ⟨1, some 2, none, .move (.tmp 34), []⟩]
@[go_sem] def n_gimletref26_Captures : NFn := ⟨1, 35, [.slot 2], (.seq (.region n_gimletref26_Captures_r0 []) (.seq (.seq (.region n_gimletref26_Captures_r1 []) (.cond (.tmp 8) (.seq (.region n_gimletref26_Captures_r2 []) .ret) .skip)) (.seq (.region n_gimletref26_Captures_r3 []) (.seq (.seq (.region n_gimletref26_Captures_r4 []) (.block 0 (.loop n_gimletref26_Captures_l9))) (.seq (.region n_gimletref26_Captures_r10 []) .ret)))))⟩
theorem c_gimletref26_Captures : compFn Try.prog F_gimletref26_Captures = some n_gimletref26_Captures := by kernel_rfl
abbrev F_gimletkit_cores : Nat := 24
@[go_sem] def n_gimletkit_cores_r0 : List NI := [
 ⟨0, some 2, none, .box (.tmp 0), []⟩,
 ⟨1, some 4, none, .move (.const (.int .i64 0)), []⟩]
@[go_sem] def n_gimletkit_cores_r1 : List NI := [
 ⟨0, some 8, none, .fieldAddr 4 (.tmp 2), []⟩,
 ⟨1, some 9, none, .load none (.tmp 8), []⟩,
 ⟨2, some 10, none, .len .slice (.tmp 9), []⟩,
 ⟨3, some 11, none, .bin .add (some .int) (.const (.int .i64 1)) (.tmp 10), []⟩,
 ⟨4, some 12, none, .fieldAddr 5 (.tmp 2), []⟩,
 ⟨5, some 13, none, .load none (.tmp 12), []⟩,
 ⟨6, some 14, none, .len .slice (.tmp 13), []⟩,
 ⟨7, some 15, none, .bin .add (some .int) (.tmp 11) (.tmp 14), []⟩,
 ⟨8, some 16, none, .fieldAddr 3 (.tmp 2), []⟩,
 ⟨9, some 17, none, .load none (.tmp 16), []⟩,
 ⟨10, some 18, none, .len .str (.tmp 17), []⟩,
 ⟨11, some 19, none, .bin .quo (some .int) (.tmp 18) (.const (.int .i64 100)), []⟩,
 ⟨12, some 20, none, .bin .add (some .int) (.tmp 15) (.tmp 19), []⟩,
 ⟨13, some 5, none, .move (.tmp 20), []⟩]
@[go_sem] def n_gimletkit_cores_r2 : List NI := [
 ⟨0, some 6, none, .move (.const (.int .i64 0)), []⟩]
@[go_sem] def n_gimletkit_cores_r3 : List NI := [
 ⟨0, some 21, none, .move (.tmp 6), []⟩,
 ⟨1, some 22, none, .fieldAddr 4 (.tmp 2), []⟩,
 ⟨2, some 23, none, .load none (.tmp 22), []⟩,
 ⟨3, some 24, none, .len .slice (.tmp 23), []⟩,
 ⟨4, some 25, none, .bin .lss (some .int) (.tmp 21) (.tmp 24), []⟩]
@[go_sem] def n_gimletkit_cores_r4 : List NI := [
 ⟨0, some 28, none, .move (.tmp 5), []⟩,
 ⟨1, some 29, none, .fieldAddr 4 (.tmp 2), []⟩,
 ⟨2, some 30, none, .load none (.tmp 29), []⟩,
 ⟨3, some 31, none, .move (.tmp 6), []⟩,
 ⟨4, some 32, none, .indexAddr 3 none (.tmp 30) (.tmp 31), []⟩,
 ⟨5, some 33, none, .fieldAddr 2 (.tmp 32), []⟩,
 ⟨6, some 34, none, .load none (.tmp 33), []⟩,
 ⟨7, some 35, none, .len .str (.tmp 34), []⟩,
 ⟨8, some 36, none, .bin .quo (some .int) (.tmp 35) (.const (.int .i64 100)), []⟩,
 ⟨9, some 37, none, .bin .add (some .int) (.tmp 28) (.tmp 36), []⟩,
 ⟨10, some 5, none, .move (.tmp 37), []⟩]
@[go_sem] def n_gimletkit_cores_r5 : List NI := [
 ⟨0, some 26, none, .move (.tmp 6), []⟩,
 ⟨1, some 27, none, .bin .add (some .int) (.tmp 26) (.const (.int .i64 1)), []⟩,
 ⟨2, some 6, none, .move (.tmp 27), []⟩]
def n_gimletkit_cores_l6 : NC := (.seq (.seq (.region n_gimletkit_cores_r3 []) (.cond (.tmp 25) .skip (.exit 0))) (.seq (.block 1 (.region n_gimletkit_cores_r4 [])) (.region n_gimletkit_cores_r5 [])))
@[go_sem] def n_gimletkit_cores_r7 : List NI := [
 ⟨0, some 7, none, .move (.const (.int .i64 0)), []⟩]
@[go_sem] def n_gimletkit_cores_r8 : List NI := [
 ⟨0, some 38, none, .move (.tmp 7), []⟩,
 ⟨1, some 39, none, .fieldAddr 6 (.tmp 2), []⟩,
 ⟨2, some 40, none, .load none (.tmp 39), []⟩,
 ⟨3, some 41, none, .len .slice (.tmp 40), []⟩,
 ⟨4, some 42, none, .bin .lss (some .int) (.tmp 38) (.tmp 41), []⟩,
 ⟨5, some 43, none, .move (.tmp 42), []⟩,
 ⟨6, some 44, some (43, true), .move (.tmp 5), []⟩,
 ⟨7, some 45, some (43, true), .move (.tmp 1), []⟩,
 ⟨8, some 46, some (43, true), .bin .leq (some .int) (.tmp 44) (.tmp 45), []⟩,
 ⟨9, some 47, none, .pick (.tmp 43) (.tmp 46) (.const (.bool false)), []⟩]
@[go_sem] def n_gimletkit_cores_r9 : List NI := [
 ⟨0, some 50, none, .move (.tmp 5), []⟩,
 ⟨1, some 51, none, .fieldAddr 6 (.tmp 2), []⟩,
 ⟨2, some 52, none, .load none (.tmp 51), []⟩,
 ⟨3, some 53, none, .move (.tmp 7), []⟩,
 ⟨4, some 54, none, .indexAddr 7 none (.tmp 52) (.tmp 53), []⟩,
 ⟨5, some 55, none, .load (some 7) (.tmp 54), []⟩,
 ⟨6, some 56, none, .move (.tmp 1), []⟩,
 ⟨7, some 57, none, .move (.tmp 5), []⟩,
 ⟨8, some 58, none, .bin .sub (some .int) (.tmp 56) (.tmp 57), []⟩,
 ⟨9, some 59, none, .call (.const (.func 24 [] [])) [(.tmp 55), (.tmp 58)], []⟩,
 ⟨10, some 60, none, .bin .add (some .int) (.tmp 50) (.tmp 59), []⟩,
 ⟨11, some 5, none, .move (.tmp 60), []⟩]
@[go_sem] def n_gimletkit_cores_r10 : List NI := [
 ⟨0, some 48, none, .move (.tmp 7), []⟩,
 ⟨1, some 49, none, .bin .add (some .int) (.tmp 48) (.const (.int .i64 1)), []⟩,
 ⟨2, some 7, none, .move (.tmp 49), []⟩]
def n_gimletkit_cores_l11 : NC := (.seq (.seq (.region n_gimletkit_cores_r8 []) (.cond (.tmp 47) .skip (.exit 2))) (.seq (.block 3 (.region n_gimletkit_cores_r9 [])) (.region n_gimletkit_cores_r10 [])))
@[go_sem] def n_gimletkit_cores_r12 : List NI := [
 ⟨0, some 61, none, .move (.tmp 5), []⟩,
 ⟨1, some 4, none, .move (.tmp 61), []⟩]
@[go_sem] def n_gimletkit_cores : NFn := ⟨2, 62, [.slot 4], (.seq (.region n_gimletkit_cores_r0 []) (.seq (.region n_gimletkit_cores_r1 []) (.seq (.seq (.region n_gimletkit_cores_r2 []) (.block 0 (.loop n_gimletkit_cores_l6))) (.seq (.seq (.region n_gimletkit_cores_r7 []) (.block 2 (.loop n_gimletkit_cores_l11))) (.seq (.region n_gimletkit_cores_r12 []) .ret)))))⟩
theorem c_gimletkit_cores : compFn Try.prog F_gimletkit_cores = some n_gimletkit_cores := by kernel_rfl
abbrev F_gimletkit_CopyCore : Nat := 25
@[go_sem] def n_gimletkit_CopyCore_r0 : List NI := [
 ⟨0, some 1, none, .box (.tmp 0), []⟩,
 ⟨1, some 2, none, .zero [(.int .i64 0), (.int .i64 0), (.int .i64 0), (.str []), .nilslice, .nilslice, .nilslice], []⟩]
@[go_sem] def n_gimletkit_CopyCore_r1 : List NI := [
 ⟨0, some 5, none, .buildSlice 3 0 [] [], []⟩,
 ⟨1, some 6, none, .fieldAddr 4 (.tmp 1), []⟩,
 ⟨2, some 7, none, .load none (.tmp 6), []⟩,
 ⟨3, some 8, none, .append false 3 32 (.tmp 5) (.tmp 7), []⟩,
 ⟨4, some 9, none, .fieldAddr 4 (.tmp 1), []⟩,
 ⟨5, none, none, .store 1 (.tmp 9) (.tmp 8), []⟩]
@[go_sem] def n_gimletkit_CopyCore_r2 : List NI := [
 ⟨0, some 10, none, .buildSlice 1 0 [] [], []⟩,
 ⟨1, some 11, none, .fieldAddr 5 (.tmp 1), []⟩,
 ⟨2, some 12, none, .load none (.tmp 11), []⟩,
 ⟨3, some 13, none, .append false 1 8 (.tmp 10) (.tmp 12), []⟩,
 ⟨4, some 14, none, .fieldAddr 5 (.tmp 1), []⟩,
 ⟨5, none, none, .store 1 (.tmp 14) (.tmp 13), []⟩]
@[go_sem] def n_gimletkit_CopyCore_r3 : List NI := [
 ⟨0, some 15, none, .fieldAddr 6 (.tmp 1), []⟩,
 ⟨1, some 16, none, .load none (.tmp 15), []⟩,
 ⟨2, some 3, none, .move (.tmp 16), []⟩]
@[go_sem] def n_gimletkit_CopyCore_r4 : List NI := [
 ⟨0, some 17, none, .fieldAddr 6 (.tmp 1), []⟩,
 ⟨1, none, none, .store 1 (.tmp 17) (.const .nilslice), []⟩]
@[go_sem] def n_gimletkit_CopyCore_r5 : List NI := [
 ⟨0, some 4, none, .move (.const (.int .i64 0)), []⟩]
@[go_sem] def n_gimletkit_CopyCore_r6 : List NI := [
 ⟨0, some 18, none, .move (.tmp 4), []⟩,
 ⟨1, some 19, none, .move (.tmp 3), []⟩,
 ⟨2, some 20, none, .len .slice (.tmp 19), []⟩,
 ⟨3, some 21, none, .bin .lss (some .int) (.tmp 18) (.tmp 20), []⟩]
@[go_sem] def n_gimletkit_CopyCore_r7 : List NI := [
 ⟨0, some 24, none, .fieldAddr 6 (.tmp 1), []⟩,
 ⟨1, some 25, none, .load none (.tmp 24), []⟩,
 ⟨2, some 26, none, .move (.tmp 3), []⟩,
 ⟨3, some 27, none, .move (.tmp 4), []⟩,
 ⟨4, some 28, none, .indexAddr 7 none (.tmp 26) (.tmp 27), []⟩,
 ⟨5, some 29, none, .load (some 7) (.tmp 28), []⟩,
 ⟨6, some 30, none, .call (.const (.func 25 [] [])) [(.tmp 29)], [((some 25), none, .load none (.tmp 24))]⟩,
 ⟨7, some 31, none, .buildSlice 7 1 [(.int .i64 0), (.int .i64 0), (.int .i64 0), (.str []), .nilslice, .nilslice, .nilslice] [(0, 7, (.tmp 30))], [((some 25), none, .load none (.tmp 24))]⟩,
 ⟨8, some 32, none, .append false 7 112 (.tmp 25) (.tmp 31), []⟩,
 ⟨9, some 33, none, .fieldAddr 6 (.tmp 1), []⟩,
 ⟨10, none, none, .store 1 (.tmp 33) (.tmp 32), []⟩]
@[go_sem] def n_gimletkit_CopyCore_r8 : List NI := [
 ⟨0, some 22, none, .move (.tmp 4), []⟩,
 ⟨1, some 23, none, .bin .add (some .int) (.tmp 22) (.const (.int .i64 1)), []⟩,
 ⟨2, some 4, none, .move (.tmp 23), []⟩]
def n_gimletkit_CopyCore_l9 : NC := (.seq (.seq (.region n_gimletkit_CopyCore_r6 []) (.cond (.tmp 21) .skip (.exit 0))) (.seq (.block 1 (.region n_gimletkit_CopyCore_r7 [])) (.region n_gimletkit_CopyCore_r8 [])))
@[go_sem] def n_gimletkit_CopyCore_r10 : List NI := [
 ⟨0, some 34, none, .load (some 7) (.tmp 1), []⟩,
 ⟨1, none, none, .store 7 (.tmp 2) (.tmp 34), []⟩]
@[go_sem] def n_gimletkit_CopyCore : NFn := ⟨1, 35, [.cell 2 (some 7)], (.seq (.region n_gimletkit_CopyCore_r0 []) (.seq (.region n_gimletkit_CopyCore_r1 []) (.seq (.region n_gimletkit_CopyCore_r2 []) (.seq (.region n_gimletkit_CopyCore_r3 []) (.seq (.region n_gimletkit_CopyCore_r4 []) (.seq (.seq (.region n_gimletkit_CopyCore_r5 []) (.block 0 (.loop n_gimletkit_CopyCore_l9))) (.seq (.region n_gimletkit_CopyCore_r10 []) .ret)))))))⟩
theorem c_gimletkit_CopyCore : compFn Try.prog F_gimletkit_CopyCore = some n_gimletkit_CopyCore := by kernel_rfl
abbrev F_gimletref26_shapes : Nat := 26
@[go_sem] def n_gimletref26_shapes_r0 : List NI := [
 ⟨0, some 1, none, .box (.tmp 0), []⟩,
 ⟨1, some 2, none, .move (.const (.bool false)), []⟩]
@[go_sem] def n_gimletref26_shapes_r1 : List NI := [
 ⟨0, some 3, none, .move (.const (.int .i64 0)), []⟩]
@[go_sem] def n_gimletref26_shapes_r2 : List NI := [
 ⟨0, some 4, none, .move (.tmp 3), []⟩,
 ⟨1, some 5, none, .fieldAddr 0 (.tmp 1), []⟩,
 ⟨2, some 6, none, .load none (.tmp 5), []⟩,
 ⟨3, some 7, none, .len .slice (.tmp 6), []⟩,
 ⟨4, some 8, none, .bin .lss (some .int) (.tmp 4) (.tmp 7), []⟩]
@[go_sem] def n_gimletref26_shapes_r3 : List NI := [
 ⟨0, some 11, none, .fieldAddr 0 (.tmp 1), []⟩,
 ⟨1, some 12, none, .load none (.tmp 11), []⟩,
 ⟨2, some 13, none, .move (.tmp 3), []⟩,
 ⟨3, some 14, none, .indexAddr 8 none (.tmp 12) (.tmp 13), []⟩,
 ⟨4, some 15, none, .fieldAddr 0 (.tmp 14), []⟩,
 ⟨5, some 16, none, .load none (.tmp 15), []⟩,
 ⟨6, some 17, none, .bin .lss (some .int) (.tmp 16) (.const (.int .i64 0)), []⟩,
 ⟨7, some 18, none, .move (.tmp 17), []⟩,
 ⟨8, some 19, some (18, false), .fieldAddr 0 (.tmp 1), []⟩,
 ⟨9, some 20, some (18, false), .load none (.tmp 19), []⟩,
 ⟨10, some 21, some (18, false), .move (.tmp 3), []⟩,
 ⟨11, some 22, some (18, false), .indexAddr 8 none (.tmp 20) (.tmp 21), []⟩,
 ⟨12, some 23, some (18, false), .fieldAddr 0 (.tmp 22), []⟩,
 ⟨13, some 24, some (18, false), .load none (.tmp 23), []⟩,
 ⟨14, some 25, some (18, false), .bin .gtr (some .int) (.tmp 24) (.const (.int .i64 1048575)), []⟩,
 ⟨15, some 26, none, .pick (.tmp 18) (.const (.bool true)) (.tmp 25), []⟩,
 ⟨16, some 27, none, .move (.tmp 26), []⟩,
 ⟨17, some 28, some (27, false), .load (some 8) (.tmp 1), []⟩,
 ⟨18, some 29, some (27, false), .fieldAddr 0 (.tmp 1), []⟩,
 ⟨19, some 30, some (27, false), .load none (.tmp 29), []⟩,
 ⟨20, some 31, some (27, false), .move (.tmp 3), []⟩,
 ⟨21, some 32, some (27, false), .indexAddr 8 none (.tmp 30) (.tmp 31), []⟩,
 ⟨22, some 33, some (27, false), .fieldAddr 1 (.tmp 32), []⟩,
 ⟨23, some 34, some (27, false), .load (some 7) (.tmp 33), []⟩,
 ⟨24, some 35, some (27, false), .call (.const (.func 44 [] [])) [(.tmp 28), (.tmp 34)], []⟩,
 ⟨25, some 36, some (27, false), .un .not (.tmp 35), []⟩,
 ⟨26, some 37, none, .pick (.tmp 27) (.const (.bool true)) (.tmp 36), []⟩]
@[go_sem] def n_gimletref26_shapes_r4 : List NI := [
 ⟨0, some 2, none, .move (.const (.bool false)), []⟩]
@[go_sem] def n_gimletref26_shapes_r5 : List NI := [
 ⟨0, some 9, none, .move (.tmp 3), []⟩,
 ⟨1, some 10, none, .bin .add (some .int) (.tmp 9) (.const (.int .i64 1)), []⟩,
 ⟨2, some 3, none, .move (.tmp 10), []⟩]
def n_gimletref26_shapes_l6 : NC := (.seq (.seq (.region n_gimletref26_shapes_r2 []) (.cond (.tmp 8) .skip (.exit 0))) (.seq (.block 1 (.seq (.region n_gimletref26_shapes_r3 []) (.cond (.tmp 37) (.seq (.region n_gimletref26_shapes_r4 []) .ret) .skip))) (.region n_gimletref26_shapes_r5 [])))
@[go_sem] def n_gimletref26_shapes_r7 : List NI := [
 ⟨0, some 38, none, .load (some 8) (.tmp 1), []⟩,
 ⟨1, some 39, none, .fieldAddr 1 (.tmp 1), []⟩,
 ⟨2, some 40, none, .load (some 7) (.tmp 39), []⟩,
 ⟨3, some 41, none, .call (.const (.func 44 [] [])) [(.tmp 38), (.tmp 40)], []⟩,
 ⟨4, some 2, none, .move (.tmp 41), []⟩]
@[go_sem] def n_gimletref26_shapes : NFn := ⟨1, 42, [.slot 2], (.seq (.region n_gimletref26_shapes_r0 []) (.seq (.seq (.region n_gimletref26_shapes_r1 []) (.block 0 (.loop n_gimletref26_shapes_l6))) (.seq (.region n_gimletref26_shapes_r7 []) .ret)))⟩
theorem c_gimletref26_shapes : compFn Try.prog F_gimletref26_shapes = some n_gimletref26_shapes := by kernel_rfl
abbrev F_gimletref26_twice : Nat := 27
@[go_sem] def n_gimletref26_twice_r0 : List NI := [
 ⟨0, some 4, none, .move (.const (.bool false)), []⟩]
@[go_sem] def n_gimletref26_twice_r1 : List NI := [
 ⟨0, some 5, none, .move (.const (.int .i64 0)), []⟩]
@[go_sem] def n_gimletref26_twice_r2 : List NI := [
 ⟨0, some 6, none, .move (.tmp 5), []⟩,
 ⟨1, some 7, none, .move (.tmp 0), []⟩,
 ⟨2, some 8, none, .len .slice (.tmp 7), []⟩,
 ⟨3, some 9, none, .bin .lss (some .int) (.tmp 6) (.tmp 8), []⟩]
@[go_sem] def n_gimletref26_twice_r3 : List NI := [
 ⟨0, some 12, none, .move (.tmp 0), []⟩,
 ⟨1, some 13, none, .move (.tmp 5), []⟩,
 ⟨2, some 14, none, .indexAddr 1 none (.tmp 12) (.tmp 13), []⟩,
 ⟨3, some 15, none, .load none (.tmp 14), []⟩,
 ⟨4, some 16, none, .move (.tmp 1), []⟩,
 ⟨5, some 17, none, .bin .leq (some .int) (.tmp 15) (.tmp 16), []⟩,
 ⟨6, some 18, none, .move (.tmp 17), []⟩,
 ⟨7, some 19, some (18, false), .move (.tmp 0), []⟩,
 ⟨8, some 20, some (18, false), .move (.tmp 5), []⟩,
 ⟨9, some 21, some (18, false), .slice (some 1) (.tmp 19) none (some (.tmp 20)) none, []⟩,
 ⟨10, some 22, some (18, false), .move (.tmp 0), []⟩,
 ⟨11, some 23, some (18, false), .move (.tmp 5), []⟩,
 ⟨12, some 24, some (18, false), .indexAddr 1 none (.tmp 22) (.tmp 23), []⟩,
 ⟨13, some 25, some (18, false), .load none (.tmp 24), []⟩,
 ⟨14, some 26, some (18, false), .call (.const (.func 45 [] [])) [(.tmp 21), (.tmp 25)], []⟩,
 ⟨15, some 27, none, .pick (.tmp 18) (.const (.bool true)) (.tmp 26), []⟩]
@[go_sem] def n_gimletref26_twice_r4 : List NI := [
 ⟨0, some 4, none, .move (.const (.bool true)), []⟩]
@[go_sem] def n_gimletref26_twice_r5 : List NI := [
 ⟨0, some 10, none, .move (.tmp 5), []⟩,
 ⟨1, some 11, none, .bin .add (some .int) (.tmp 10) (.const (.int .i64 1)), []⟩,
 ⟨2, some 5, none, .move (.tmp 11), []⟩]
def n_gimletref26_twice_l6 : NC := (.seq (.seq (.region n_gimletref26_twice_r2 []) (.cond (.tmp 9) .skip (.exit 0))) (.seq (.block 1 (.seq (.region n_gimletref26_twice_r3 []) (.cond (.tmp 27) (.seq (.region n_gimletref26_twice_r4 []) .ret) .skip))) (.region n_gimletref26_twice_r5 [])))
@[go_sem] def n_gimletref26_twice_r7 : List NI := [
 ⟨0, some 4, none, .move (.const (.bool false)), []⟩]
@[go_sem] def n_gimletref26_twice : NFn := ⟨2, 28, [.slot 4], (.seq (.region n_gimletref26_twice_r0 []) (.seq (.seq (.region n_gimletref26_twice_r1 []) (.block 0 (.loop n_gimletref26_twice_l6))) (.seq (.region n_gimletref26_twice_r7 []) .ret)))⟩
theorem c_gimletref26_twice : compFn Try.prog F_gimletref26_twice = some n_gimletref26_twice := by kernel_rfl
abbrev F_gimletref26_all : Nat := 28
@[go_sem] def n_gimletref26_all_r0 : List NI := [
 ⟨0, some 1, none, .box (.tmp 0), []⟩,
 ⟨1, some 2, none, .move (.const .nilslice), []⟩]
@[go_sem] def n_gimletref26_all_r1 : List NI := [
 ⟨0, some 5, none, .load (some 7) (.tmp 1), []⟩,
 ⟨1, some 6, none, .call (.const (.func 46 [] [])) [(.tmp 5)], []⟩,
 ⟨2, some 3, none, .move (.tmp 6), []⟩]
@[go_sem] def n_gimletref26_all_r2 : List NI := [
 ⟨0, some 4, none, .move (.const (.int .i64 0)), []⟩]
@[go_sem] def n_gimletref26_all_r3 : List NI := [
 ⟨0, some 7, none, .move (.tmp 4), []⟩,
 ⟨1, some 8, none, .fieldAddr 6 (.tmp 1), []⟩,
 ⟨2, some 9, none, .load none (.tmp 8), []⟩,
 ⟨3, some 10, none, .len .slice (.tmp 9), []⟩,
 ⟨4, some 11, none, .bin .lss (some .int) (.tmp 7) (.tmp 10), []⟩]
@[go_sem] def n_gimletref26_all_r4 : List NI := [
 ⟨0, some 14, none, .move (.tmp 3), []⟩,
 ⟨1, some 15, none, .fieldAddr 6 (.tmp 1), []⟩,
 ⟨2, some 16, none, .load none (.tmp 15), []⟩,
 ⟨3, some 17, none, .move (.tmp 4), []⟩,
 ⟨4, some 18, none, .indexAddr 7 none (.tmp 16) (.tmp 17), []⟩,
 ⟨5, some 19, none, .load (some 7) (.tmp 18), []⟩,
 ⟨6, some 20, none, .call (.const (.func 28 [] [])) [(.tmp 19)], []⟩,
 ⟨7, some 21, none, .append false 1 8 (.tmp 14) (.tmp 20), []⟩,
 ⟨8, some 3, none, .move (.tmp 21), []⟩]
@[go_sem] def n_gimletref26_all_r5 : List NI := [
 ⟨0, some 12, none, .move (.tmp 4), []⟩,
 ⟨1, some 13, none, .bin .add (some .int) (.tmp 12) (.const (.int .i64 1)), []⟩,
 ⟨2, some 4, none, .move (.tmp 13), []⟩]
def n_gimletref26_all_l6 : NC := (.seq (.seq (.region n_gimletref26_all_r3 []) (.cond (.tmp 11) .skip (.exit 0))) (.seq (.block 1 (.region n_gimletref26_all_r4 [])) (.region n_gimletref26_all_r5 [])))
@[go_sem] def n_gimletref26_all_r7 : List NI := [
 ⟨0, some 22, none, .move (.tmp 3), []⟩,
 ⟨1, some 2, none, .move (.tmp 22), []⟩]
@[go_sem] def n_gimletref26_all : NFn := ⟨1, 23, [.slot 2], (.seq (.region n_gimletref26_all_r0 []) (.seq (.region n_gimletref26_all_r1 []) (.seq (.seq (.region n_gimletref26_all_r2 []) (.block 0 (.loop n_gimletref26_all_l6))) (.seq (.region n_gimletref26_all_r7 []) .ret))))⟩
theorem c_gimletref26_all : compFn Try.prog F_gimletref26_all = some n_gimletref26_all := by kernel_rfl
abbrev F_gimletref26_used : Nat := 29
@[go_sem] def n_gimletref26_used_r0 : List NI := [
 ⟨0, some 3, none, .box (.tmp 0), []⟩,
 ⟨1, some 6, none, .move (.const (.bool false)), []⟩]
@[go_sem] def n_gimletref26_used_r1 : List NI := [
 ⟨0, some 7, none, .move (.const (.int .i64 0)), []⟩]
@[go_sem] def n_gimletref26_used_r2 : List NI := [
 ⟨0, some 10, none, .move (.tmp 7), []⟩,
 ⟨1, some 11, none, .fieldAddr 4 (.tmp 3), []⟩,
 ⟨2, some 12, none, .load none (.tmp 11), []⟩,
 ⟨3, some 13, none, .len .slice (.tmp 12), []⟩,
 ⟨4, some 14, none, .bin .lss (some .int) (.tmp 10) (.tmp 13), []⟩]
@[go_sem] def n_gimletref26_used_r3 : List NI := [
 ⟨0, some 17, none, .fieldAddr 4 (.tmp 3), []⟩,
 ⟨1, some 18, none, .load none (.tmp 17), []⟩,
 ⟨2, some 19, none, .move (.tmp 7), []⟩,
 ⟨3, some 20, none, .indexAddr 3 none (.tmp 18) (.tmp 19), []⟩,
 ⟨4, some 21, none, .fieldAddr 0 (.tmp 20), []⟩,
 ⟨5, some 22, none, .load none (.tmp 21), []⟩,
 ⟨6, some 23, none, .bin .eql (some .int) (.tmp 22) (.const (.int .i64 1)), []⟩,
 ⟨7, some 24, none, .move (.tmp 23), []⟩,
 ⟨8, some 25, some (24, true), .fieldAddr 4 (.tmp 3), []⟩,
 ⟨9, some 26, some (24, true), .load none (.tmp 25), []⟩,
 ⟨10, some 27, some (24, true), .move (.tmp 7), []⟩,
 ⟨11, some 28, some (24, true), .indexAddr 3 none (.tmp 26) (.tmp 27), []⟩,
 ⟨12, some 29, some (24, true), .fieldAddr 1 (.tmp 28), []⟩,
 ⟨13, some 30, some (24, true), .load none (.tmp 29), []⟩,
 ⟨14, some 31, some (24, true), .move (.tmp 1), []⟩,
 ⟨15, some 32, some (24, true), .bin .gtr (some .int) (.tmp 30) (.tmp 31), []⟩,
 ⟨16, some 33, none, .pick (.tmp 24) (.tmp 32) (.const (.bool false)), []⟩,
 ⟨17, some 34, none, .move (.tmp 33), []⟩,
 ⟨18, some 35, some (34, true), .move (.tmp 2), []⟩,
 ⟨19, some 36, some (34, true), .fieldAddr 4 (.tmp 3), []⟩,
 ⟨20, some 37, some (34, true), .load none (.tmp 36), []⟩,
 ⟨21, some 38, some (34, true), .move (.tmp 7), []⟩,
 ⟨22, some 39, some (34, true), .indexAddr 3 none (.tmp 37) (.tmp 38), []⟩,
 ⟨23, some 40, some (34, true), .fieldAddr 1 (.tmp 39), []⟩,
 ⟨24, some 41, some (34, true), .load none (.tmp 40), []⟩,
 ⟨25, some 42, some (34, true), .call (.const (.func 45 [] [])) [(.tmp 35), (.tmp 41)], []⟩,
 ⟨26, some 43, some (34, true), .un .not (.tmp 42), []⟩,
 ⟨27, some 44, none, .pick (.tmp 34) (.tmp 43) (.const (.bool false)), []⟩]
@[go_sem] def n_gimletref26_used_r4 : List NI := [
 ⟨0, some 6, none, .move (.const (.bool false)), []⟩]
@[go_sem] def n_gimletref26_used_r5 : List NI := [
 ⟨0, some 15, none, .move (.tmp 7), []⟩,
 ⟨1, some 16, none, .bin .add (some .int) (.tmp 15) (.const (.int .i64 1)), []⟩,
 ⟨2, some 7, none, .move (.tmp 16), []⟩]
def n_gimletref26_used_l6 : NC := (.seq (.seq (.region n_gimletref26_used_r2 []) (.cond (.tmp 14) .skip (.exit 0))) (.seq (.block 1 (.seq (.region n_gimletref26_used_r3 []) (.cond (.tmp 44) (.seq (.region n_gimletref26_used_r4 []) .ret) .skip))) (.region n_gimletref26_used_r5 [])))
@[go_sem] def n_gimletref26_used_r7 : List NI := [
 ⟨0, some 8, none, .move (.const (.int .i64 0)), []⟩]
@[go_sem] def n_gimletref26_used_r8 : List NI := [
 ⟨0, some 45, none, .move (.tmp 8), []⟩,
 ⟨1, some 46, none, .fieldAddr 6 (.tmp 3), []⟩,
 ⟨2, some 47, none, .load none (.tmp 46), []⟩,
 ⟨3, some 48, none, .len .slice (.tmp 47), []⟩,
 ⟨4, some 49, none, .bin .lss (some .int) (.tmp 45) (.tmp 48), []⟩]
@[go_sem] def n_gimletref26_used_r9 : List NI := [
 ⟨0, some 52, none, .move (.tmp 2), []⟩,
 ⟨1, some 9, none, .move (.tmp 52), []⟩]
@[go_sem] def n_gimletref26_used_r10 : List NI := [
 ⟨0, some 53, none, .fieldAddr 0 (.tmp 3), []⟩,
 ⟨1, some 54, none, .load none (.tmp 53), []⟩,
 ⟨2, some 55, none, .bin .eql (some .int) (.tmp 54) (.const (.int .i64 14)), []⟩,
 ⟨3, some 56, none, .move (.tmp 55), []⟩,
 ⟨4, some 57, some (56, false), .move (.tmp 8), []⟩,
 ⟨5, some 58, some (56, false), .bin .eql (some .int) (.tmp 57) (.const (.int .i64 1)), []⟩,
 ⟨6, some 59, some (56, false), .move (.tmp 58), []⟩,
 ⟨7, some 60, some (59, true), .fieldAddr 0 (.tmp 3), []⟩,
 ⟨8, some 61, some (59, true), .load none (.tmp 60), []⟩,
 ⟨9, some 62, some (59, true), .bin .eql (some .int) (.tmp 61) (.const (.int .i64 2)), []⟩,
 ⟨10, some 63, some (59, true), .move (.tmp 62), []⟩,
 ⟨11, some 64, some (63, false), .fieldAddr 0 (.tmp 3), []⟩,
 ⟨12, some 65, some (63, false), .load none (.tmp 64), []⟩,
 ⟨13, some 66, some (63, false), .bin .eql (some .int) (.tmp 65) (.const (.int .i64 11)), []⟩,
 ⟨14, some 67, some (59, true), .pick (.tmp 63) (.const (.bool true)) (.tmp 66), []⟩,
 ⟨15, some 68, some (56, false), .pick (.tmp 59) (.tmp 67) (.const (.bool false)), []⟩,
 ⟨16, some 69, none, .pick (.tmp 56) (.const (.bool true)) (.tmp 68), []⟩]
@[go_sem] def n_gimletref26_used_r11 : List NI := [
 ⟨1, some 71, none, .move (.tmp 2), []⟩,
 ⟨3, some 73, none, .load (some 7) (.tmp 3), []⟩,
 ⟨0, some 70, none, .buildSlice 1 0 [] [], [((some 73), none, .load (some 7) (.tmp 3))]⟩,
 ⟨2, some 72, none, .append false 1 8 (.tmp 70) (.tmp 71), [((some 73), none, .load (some 7) (.tmp 3))]⟩,
 ⟨4, some 74, none, .call (.const (.func 46 [] [])) [(.tmp 73)], []⟩,
 ⟨5, some 75, none, .append false 1 8 (.tmp 72) (.tmp 74), []⟩,
 ⟨6, some 9, none, .move (.tmp 75), []⟩]
@[go_sem] def n_gimletref26_used_r12 : List NI := [
 ⟨0, some 76, none, .fieldAddr 6 (.tmp 3), []⟩,
 ⟨1, some 77, none, .load none (.tmp 76), []⟩,
 ⟨2, some 78, none, .move (.tmp 8), []⟩,
 ⟨3, some 79, none, .indexAddr 7 none (.tmp 77) (.tmp 78), []⟩,
 ⟨4, some 80, none, .load (some 7) (.tmp 79), []⟩,
 ⟨5, some 81, none, .move (.tmp 1), []⟩,
 ⟨6, some 82, none, .move (.tmp 9), []⟩,
 ⟨7, some 83, none, .call (.const (.func 29 [] [])) [(.tmp 80), (.tmp 81), (.tmp 82)], []⟩,
 ⟨8, some 84, none, .un .not (.tmp 83), []⟩]
@[go_sem] def n_gimletref26_used_r13 : List NI := [
 ⟨0, some 6, none, .move (.const (.bool false)), []⟩]
@[go_sem] def n_gimletref26_used_r14 : List NI := [
 ⟨0, some 50, none, .move (.tmp 8), []⟩,
 ⟨1, some 51, none, .bin .add (some .int) (.tmp 50) (.const (.int .i64 1)), []⟩,
 ⟨2, some 8, none, .move (.tmp 51), []⟩]
def n_gimletref26_used_l15 : NC := (.seq (.seq (.region n_gimletref26_used_r8 []) (.cond (.tmp 49) .skip (.exit 2))) (.seq (.block 3 (.seq (.region n_gimletref26_used_r9 []) (.seq (.seq (.region n_gimletref26_used_r10 []) (.cond (.tmp 69) (.region n_gimletref26_used_r11 []) .skip)) (.seq (.region n_gimletref26_used_r12 []) (.cond (.tmp 84) (.seq (.region n_gimletref26_used_r13 []) .ret) .skip))))) (.region n_gimletref26_used_r14 [])))
@[go_sem] def n_gimletref26_used_r16 : List NI := [
 ⟨0, some 6, none, .move (.const (.bool true)), []⟩]
@[go_sem] def n_gimletref26_used : NFn := ⟨3, 85, [.slot 6], (.seq (.region n_gimletref26_used_r0 []) (.seq (.seq (.region n_gimletref26_used_r1 []) (.block 0 (.loop n_gimletref26_used_l6))) (.seq (.seq (.region n_gimletref26_used_r7 []) (.block 2 (.loop n_gimletref26_used_l15))) (.seq (.region n_gimletref26_used_r16 []) .ret))))⟩
theorem c_gimletref26_used : compFn Try.prog F_gimletref26_used = some n_gimletref26_used := by kernel_rfl
abbrev F_gimletref26_uses : Nat := 31
@[go_sem] def n_gimletref26_uses_r0 : List NI := [
 ⟨0, some 3, none, .box (.tmp 0), []⟩,
 ⟨1, some 6, none, .move (.const .nilslice), []⟩]
@[go_sem] def n_gimletref26_uses_r1 : List NI := [
 ⟨0, some 7, none, .move (.const (.int .i64 0)), []⟩]
@[go_sem] def n_gimletref26_uses_r2 : List NI := [
 ⟨0, some 10, none, .move (.tmp 7), []⟩,
 ⟨1, some 11, none, .fieldAddr 4 (.tmp 3), []⟩,
 ⟨2, some 12, none, .load none (.tmp 11), []⟩,
 ⟨3, some 13, none, .len .slice (.tmp 12), []⟩,
 ⟨4, some 14, none, .bin .lss (some .int) (.tmp 10) (.tmp 13), []⟩]
@[go_sem] def n_gimletref26_uses_r3 : List NI := [
 ⟨0, some 17, none, .fieldAddr 4 (.tmp 3), []⟩,
 ⟨1, some 18, none, .load none (.tmp 17), []⟩,
 ⟨2, some 19, none, .move (.tmp 7), []⟩,
 ⟨3, some 20, none, .indexAddr 3 none (.tmp 18) (.tmp 19), []⟩,
 ⟨4, some 21, none, .load (some 3) (.tmp 20), []⟩,
 ⟨5, some 8, none, .zero [(.int .i64 0), (.int .i64 0), (.str [])], []⟩,
 ⟨6, none, none, .store 3 (.tmp 8) (.tmp 21), []⟩]
@[go_sem] def n_gimletref26_uses_r4 : List NI := [
 ⟨0, some 22, none, .fieldAddr 0 (.tmp 8), []⟩,
 ⟨1, some 23, none, .load none (.tmp 22), []⟩,
 ⟨2, some 24, none, .bin .eql (some .int) (.tmp 23) (.const (.int .i64 1)), []⟩,
 ⟨3, some 25, none, .move (.tmp 24), []⟩,
 ⟨4, some 26, some (25, true), .fieldAddr 1 (.tmp 8), []⟩,
 ⟨5, some 27, some (25, true), .load none (.tmp 26), []⟩,
 ⟨6, some 28, some (25, true), .bin .geq (some .int) (.tmp 27) (.const (.int .i64 1)), []⟩,
 ⟨7, some 29, none, .pick (.tmp 25) (.tmp 28) (.const (.bool false)), []⟩,
 ⟨8, some 30, none, .move (.tmp 29), []⟩,
 ⟨9, some 31, some (30, true), .fieldAddr 1 (.tmp 8), []⟩,
 ⟨10, some 32, some (30, true), .load none (.tmp 31), []⟩,
 ⟨11, some 33, some (30, true), .move (.tmp 1), []⟩,
 ⟨12, some 34, some (30, true), .bin .leq (some .int) (.tmp 32) (.tmp 33), []⟩,
 ⟨13, some 35, none, .pick (.tmp 30) (.tmp 34) (.const (.bool false)), []⟩,
 ⟨14, some 36, none, .move (.tmp 35), []⟩,
 ⟨15, some 37, some (36, true), .move (.tmp 2), []⟩,
 ⟨16, some 38, some (36, true), .fieldAddr 1 (.tmp 8), []⟩,
 ⟨17, some 39, some (36, true), .load none (.tmp 38), []⟩,
 ⟨18, some 40, some (36, true), .call (.const (.func 45 [] [])) [(.tmp 37), (.tmp 39)], []⟩,
 ⟨19, some 41, some (36, true), .un .not (.tmp 40), []⟩,
 ⟨20, some 42, none, .pick (.tmp 36) (.tmp 41) (.const (.bool false)), []⟩]
@[go_sem] def n_gimletref26_uses_r5 : List NI := [
 ⟨0, some 43, none, .move (.tmp 2), []⟩,
 ⟨1, some 44, none, .fieldAddr 1 (.tmp 8), []⟩,
 ⟨2, some 45, none, .load none (.tmp 44), []⟩,
 ⟨3, some 46, none, .buildSlice 1 1 [(.int .i64 0)] [(0, 1, (.tmp 45))], []⟩,
 ⟨4, some 47, none, .append false 1 8 (.tmp 43) (.tmp 46), []⟩,
 ⟨5, some 2, none, .move (.tmp 47), []⟩]
@[go_sem] def n_gimletref26_uses_r6 : List NI := [
 ⟨0, some 15, none, .move (.tmp 7), []⟩,
 ⟨1, some 16, none, .bin .add (some .int) (.tmp 15) (.const (.int .i64 1)), []⟩,
 ⟨2, some 7, none, .move (.tmp 16), []⟩]
def n_gimletref26_uses_l7 : NC := (.seq (.seq (.region n_gimletref26_uses_r2 []) (.cond (.tmp 14) .skip (.exit 0))) (.seq (.block 1 (.seq (.region n_gimletref26_uses_r3 []) (.seq (.region n_gimletref26_uses_r4 []) (.cond (.tmp 42) (.region n_gimletref26_uses_r5 []) .skip)))) (.region n_gimletref26_uses_r6 [])))
@[go_sem] def n_gimletref26_uses_r8 : List NI := [
 ⟨0, some 9, none, .move (.const (.int .i64 0)), []⟩]
@[go_sem] def n_gimletref26_uses_r9 : List NI := [
 ⟨0, some 48, none, .move (.tmp 9), []⟩,
 ⟨1, some 49, none, .fieldAddr 6 (.tmp 3), []⟩,
 ⟨2, some 50, none, .load none (.tmp 49), []⟩,
 ⟨3, some 51, none, .len .slice (.tmp 50), []⟩,
 ⟨4, some 52, none, .bin .lss (some .int) (.tmp 48) (.tmp 51), []⟩]
@[go_sem] def n_gimletref26_uses_r10 : List NI := [
 ⟨0, some 55, none, .fieldAddr 6 (.tmp 3), []⟩,
 ⟨1, some 56, none, .load none (.tmp 55), []⟩,
 ⟨2, some 57, none, .move (.tmp 9), []⟩,
 ⟨3, some 58, none, .indexAddr 7 none (.tmp 56) (.tmp 57), []⟩,
 ⟨4, some 59, none, .load (some 7) (.tmp 58), []⟩,
 ⟨5, some 60, none, .move (.tmp 1), []⟩,
 ⟨6, some 61, none, .move (.tmp 2), []⟩,
 ⟨7, some 62, none, .call (.const (.func 31 [] [])) [(.tmp 59), (.tmp 60), (.tmp 61)], []⟩,
 ⟨8, some 2, none, .move (.tmp 62), []⟩]
@[go_sem] def n_gimletref26_uses_r11 : List NI := [
 ⟨0, some 53, none, .move (.tmp 9), []⟩,
 ⟨1, some 54, none, .bin .add (some .int) (.tmp 53) (.const (.int .i64 1)), []⟩,
 ⟨2, some 9, none, .move (.tmp 54), []⟩]
def n_gimletref26_uses_l12 : NC := (.seq (.seq (.region n_gimletref26_uses_r9 []) (.cond (.tmp 52) .skip (.exit 2))) (.seq (.block 3 (.region n_gimletref26_uses_r10 [])) (.region n_gimletref26_uses_r11 [])))
@[go_sem] def n_gimletref26_uses_r13 : List NI := [
 ⟨0, some 63, none, .move (.tmp 2), []⟩,
 ⟨1, some 6, none, .move (.tmp 63), []⟩]
@[go_sem] def n_gimletref26_uses : NFn := ⟨3, 64, [.slot 6], (.seq (.region n_gimletref26_uses_r0 []) (.seq (.seq (.region n_gimletref26_uses_r1 []) (.block 0 (.loop n_gimletref26_uses_l7))) (.seq (.seq (.region n_gimletref26_uses_r8 []) (.block 2 (.loop n_gimletref26_uses_l12))) (.seq (.region n_gimletref26_uses_r13 []) .ret))))⟩
theorem c_gimletref26_uses : compFn Try.prog F_gimletref26_uses = some n_gimletref26_uses := by kernel_rfl
abbrev F_gimletref26_may : Nat := 44
@[go_sem] def n_gimletref26_may_r0 : List NI := [
 ⟨0, some 2, none, .box (.tmp 0), []⟩,
 ⟨1, some 3, none, .box (.tmp 1), []⟩,
 ⟨2, some 4, none, .move (.const (.bool false)), []⟩]
@[go_sem] def n_gimletref26_may_r1 : List NI := [
 ⟨0, some 5, none, .move (.const (.bool false)), []⟩]
@[go_sem] def n_gimletref26_may_r2 : List NI := [
 ⟨0, some 7, none, .fieldAddr 0 (.tmp 3), []⟩,
 ⟨1, some 8, none, .load none (.tmp 7), []⟩]
@[go_sem] def n_gimletref26_may_r3 : List NI := [
 ⟨0, some 12, none, .bin .eql (some .int) (.tmp 8) (.const (.int .i64 13)), []⟩,
 ⟨1, some 11, none, .move (.tmp 12), []⟩]
@[go_sem] def n_gimletref26_may_r4 : List NI := [
 ⟨0, some 13, none, .load (some 8) (.tmp 2), []⟩,
 ⟨1, some 14, none, .load (some 7) (.tmp 3), []⟩,
 ⟨2, some 15, none, .call (.const (.func 60 [] [])) [(.tmp 13), (.tmp 14)], []⟩,
 ⟨3, some 5, none, .move (.tmp 15), []⟩]
@[go_sem] def n_gimletref26_may_r5 : List NI := [
 ⟨0, some 17, none, .bin .eql (some .int) (.tmp 8) (.const (.int .i64 14)), []⟩,
 ⟨1, some 16, none, .move (.tmp 17), []⟩]
@[go_sem] def n_gimletref26_may_r6 : List NI := [
 ⟨0, some 18, none, .load (some 8) (.tmp 2), []⟩,
 ⟨1, some 19, none, .load (some 7) (.tmp 3), []⟩,
 ⟨2, some 20, none, .call (.const (.func 61 [] [])) [(.tmp 18), (.tmp 19)], []⟩,
 ⟨3, some 5, none, .move (.tmp 20), []⟩]
@[go_sem] def n_gimletref26_may_r7 : List NI := [
 ⟨0, some 9, none, .load (some 7) (.tmp 3), []⟩,
 ⟨1, some 10, none, .call (.const (.func 62 [] [])) [(.tmp 9)], []⟩,
 ⟨2, some 5, none, .move (.tmp 10), []⟩]
@[go_sem] def n_gimletref26_may_r8 : List NI := [
 ⟨0, some 6, none, .move (.const (.int .i64 0)), []⟩]
@[go_sem] def n_gimletref26_may_r9 : List NI := [
 ⟨0, some 21, none, .move (.tmp 5), []⟩,
 ⟨1, some 22, none, .move (.tmp 21), []⟩,
 ⟨2, some 23, some (22, true), .move (.tmp 6), []⟩,
 ⟨3, some 24, some (22, true), .fieldAddr 6 (.tmp 3), []⟩,
 ⟨4, some 25, some (22, true), .load none (.tmp 24), []⟩,
 ⟨5, some 26, some (22, true), .len .slice (.tmp 25), []⟩,
 ⟨6, some 27, some (22, true), .bin .lss (some .int) (.tmp 23) (.tmp 26), []⟩,
 ⟨7, some 28, none, .pick (.tmp 22) (.tmp 27) (.const (.bool false)), []⟩]
@[go_sem] def n_gimletref26_may_r10 : List NI := [
 ⟨0, some 31, none, .load (some 8) (.tmp 2), []⟩,
 ⟨1, some 32, none, .fieldAddr 6 (.tmp 3), []⟩,
 ⟨2, some 33, none, .load none (.tmp 32), []⟩,
 ⟨3, some 34, none, .move (.tmp 6), []⟩,
 ⟨4, some 35, none, .indexAddr 7 none (.tmp 33) (.tmp 34), []⟩,
 ⟨5, some 36, none, .load (some 7) (.tmp 35), []⟩,
 ⟨6, some 37, none, .call (.const (.func 44 [] [])) [(.tmp 31), (.tmp 36)], []⟩,
 ⟨7, some 5, none, .move (.tmp 37), []⟩]
@[go_sem] def n_gimletref26_may_r11 : List NI := [
 ⟨0, some 29, none, .move (.tmp 6), []⟩,
 ⟨1, some 30, none, .bin .add (some .int) (.tmp 29) (.const (.int .i64 1)), []⟩,
 ⟨2, some 6, none, .move (.tmp 30), []⟩]
def n_gimletref26_may_l12 : NC := (.seq (.seq (.region n_gimletref26_may_r9 []) (.cond (.tmp 28) .skip (.exit 1))) (.seq (.block 2 (.region n_gimletref26_may_r10 [])) (.region n_gimletref26_may_r11 [])))
@[go_sem] def n_gimletref26_may_r13 : List NI := [
 ⟨0, some 38, none, .move (.tmp 5), []⟩,
 ⟨1, some 4, none, .move (.tmp 38), []⟩]
@[go_sem] def n_gimletref26_may : NFn := ⟨2, 39, [.slot 4], (.seq (.region n_gimletref26_may_r0 []) (.seq (.region n_gimletref26_may_r1 []) (.seq (.seq (.region n_gimletref26_may_r2 []) (.block 0 (.seq (.region n_gimletref26_may_r3 []) (.cond (.tmp 11) (.region n_gimletref26_may_r4 []) (.seq (.region n_gimletref26_may_r5 []) (.cond (.tmp 16) (.region n_gimletref26_may_r6 []) (.region n_gimletref26_may_r7 []))))))) (.seq (.seq (.region n_gimletref26_may_r8 []) (.block 1 (.loop n_gimletref26_may_l12))) (.seq (.region n_gimletref26_may_r13 []) .ret)))))⟩
theorem c_gimletref26_may : compFn Try.prog F_gimletref26_may = some n_gimletref26_may := by kernel_rfl
abbrev F_gimletref26_among : Nat := 45
@[go_sem] def n_gimletref26_among_r0 : List NI := [
 ⟨0, some 4, none, .move (.const (.bool false)), []⟩]
@[go_sem] def n_gimletref26_among_r1 : List NI := [
 ⟨0, some 5, none, .move (.const (.int .i64 0)), []⟩]
@[go_sem] def n_gimletref26_among_r2 : List NI := [
 ⟨0, some 6, none, .move (.tmp 5), []⟩,
 ⟨1, some 7, none, .move (.tmp 0), []⟩,
 ⟨2, some 8, none, .len .slice (.tmp 7), []⟩,
 ⟨3, some 9, none, .bin .lss (some .int) (.tmp 6) (.tmp 8), []⟩]
@[go_sem] def n_gimletref26_among_r3 : List NI := [
 ⟨0, some 12, none, .move (.tmp 0), []⟩,
 ⟨1, some 13, none, .move (.tmp 5), []⟩,
 ⟨2, some 14, none, .indexAddr 1 none (.tmp 12) (.tmp 13), []⟩,
 ⟨3, some 15, none, .load none (.tmp 14), []⟩,
 ⟨4, some 16, none, .move (.tmp 1), []⟩,
 ⟨5, some 17, none, .bin .eql (some .int) (.tmp 15) (.tmp 16), []⟩]
@[go_sem] def n_gimletref26_among_r4 : List NI := [
 ⟨0, some 4, none, .move (.const (.bool true)), []⟩]
@[go_sem] def n_gimletref26_among_r5 : List NI := [
 ⟨0, some 10, none, .move (.tmp 5), []⟩,
 ⟨1, some 11, none, .bin .add (some .int) (.tmp 10) (.const (.int .i64 1)), []⟩,
 ⟨2, some 5, none, .move (.tmp 11), []⟩]
def n_gimletref26_among_l6 : NC := (.seq (.seq (.region n_gimletref26_among_r2 []) (.cond (.tmp 9) .skip (.exit 0))) (.seq (.block 1 (.seq (.region n_gimletref26_among_r3 []) (.cond (.tmp 17) (.seq (.region n_gimletref26_among_r4 []) .ret) .skip))) (.region n_gimletref26_among_r5 [])))
@[go_sem] def n_gimletref26_among_r7 : List NI := [
 ⟨0, some 4, none, .move (.const (.bool false)), []⟩]
@[go_sem] def n_gimletref26_among : NFn := ⟨2, 18, [.slot 4], (.seq (.region n_gimletref26_among_r0 []) (.seq (.seq (.region n_gimletref26_among_r1 []) (.block 0 (.loop n_gimletref26_among_l6))) (.seq (.region n_gimletref26_among_r7 []) .ret)))⟩
theorem c_gimletref26_among : compFn Try.prog F_gimletref26_among = some n_gimletref26_among := by kernel_rfl
abbrev F_gimletref26_binds : Nat := 46
@[go_sem] def n_gimletref26_binds_r0 : List NI := [
 ⟨0, some 1, none, .box (.tmp 0), []⟩,
 ⟨1, some 2, none, .move (.const .nilslice), []⟩]
@[go_sem] def n_gimletref26_binds_r1 : List NI := [
 ⟨0, some 3, none, .move (.const .nilslice), []⟩]
@[go_sem] def n_gimletref26_binds_r2 : List NI := [
 ⟨0, some 5, none, .fieldAddr 0 (.tmp 1), []⟩,
 ⟨1, some 6, none, .load none (.tmp 5), []⟩]
@[go_sem] def n_gimletref26_binds_r3 : List NI := [
 ⟨0, some 8, none, .bin .eql (some .int) (.tmp 6) (.const (.int .i64 2)), []⟩,
 ⟨1, some 7, none, .move (.tmp 8), []⟩]
@[go_sem] def n_gimletref26_binds_r4 : List NI := [
 ⟨0, some 9, none, .bin .eql (some .int) (.tmp 6) (.const (.int .i64 11)), []⟩,
 ⟨1, some 7, none, .move (.tmp 9), []⟩]
@[go_sem] def n_gimletref26_binds_r5 : List NI := [
 ⟨0, some 10, none, .move (.tmp 3), []⟩,
 ⟨1, some 11, none, .fieldAddr 1 (.tmp 1), []⟩,
 ⟨2, some 12, none, .load none (.tmp 11), []⟩,
 ⟨3, some 13, none, .buildSlice 1 1 [(.int .i64 0)] [(0, 1, (.tmp 12))], []⟩,
 ⟨4, some 14, none, .append false 1 8 (.tmp 10) (.tmp 13), []⟩,
 ⟨5, some 3, none, .move (.tmp 14), []⟩]
@[go_sem] def n_gimletref26_binds_r6 : List NI := [
 ⟨0, some 16, none, .bin .eql (some .int) (.tmp 6) (.const (.int .i64 14)), []⟩,
 ⟨1, some 15, none, .move (.tmp 16), []⟩]
@[go_sem] def n_gimletref26_binds_r7 : List NI := [
 ⟨0, some 4, none, .move (.const (.int .i64 0)), []⟩]
@[go_sem] def n_gimletref26_binds_r8 : List NI := [
 ⟨0, some 17, none, .move (.tmp 4), []⟩,
 ⟨1, some 18, none, .fieldAddr 5 (.tmp 1), []⟩,
 ⟨2, some 19, none, .load none (.tmp 18), []⟩,
 ⟨3, some 20, none, .len .slice (.tmp 19), []⟩,
 ⟨4, some 21, none, .bin .lss (some .int) (.tmp 17) (.tmp 20), []⟩]
@[go_sem] def n_gimletref26_binds_r9 : List NI := [
 ⟨0, some 24, none, .move (.tmp 3), []⟩,
 ⟨1, some 25, none, .fieldAddr 1 (.tmp 1), []⟩,
 ⟨2, some 26, none, .load none (.tmp 25), []⟩,
 ⟨3, some 27, none, .move (.tmp 4), []⟩,
 ⟨4, some 28, none, .bin .add (some .int) (.tmp 26) (.tmp 27), []⟩,
 ⟨5, some 29, none, .buildSlice 1 1 [(.int .i64 0)] [(0, 1, (.tmp 28))], []⟩,
 ⟨6, some 30, none, .append false 1 8 (.tmp 24) (.tmp 29), []⟩,
 ⟨7, some 3, none, .move (.tmp 30), []⟩]
@[go_sem] def n_gimletref26_binds_r10 : List NI := [
 ⟨0, some 22, none, .move (.tmp 4), []⟩,
 ⟨1, some 23, none, .bin .add (some .int) (.tmp 22) (.const (.int .i64 1)), []⟩,
 ⟨2, some 4, none, .move (.tmp 23), []⟩]
def n_gimletref26_binds_l11 : NC := (.seq (.seq (.region n_gimletref26_binds_r8 []) (.cond (.tmp 21) .skip (.exit 1))) (.seq (.block 2 (.region n_gimletref26_binds_r9 [])) (.region n_gimletref26_binds_r10 [])))
@[go_sem] def n_gimletref26_binds_r12 : List NI := [
 ⟨0, some 31, none, .move (.tmp 3), []⟩,
 ⟨1, some 2, none, .move (.tmp 31), []⟩]
@[go_sem] def n_gimletref26_binds : NFn := ⟨1, 32, [.slot 2], (.seq (.region n_gimletref26_binds_r0 []) (.seq (.region n_gimletref26_binds_r1 []) (.seq (.seq (.region n_gimletref26_binds_r2 []) (.block 0 (.seq (.seq (.region n_gimletref26_binds_r3 []) (.cond (.tmp 7) .skip (.region n_gimletref26_binds_r4 []))) (.cond (.tmp 7) (.region n_gimletref26_binds_r5 []) (.seq (.region n_gimletref26_binds_r6 []) (.cond (.tmp 15) (.seq (.region n_gimletref26_binds_r7 []) (.block 1 (.loop n_gimletref26_binds_l11))) .skip)))))) (.seq (.region n_gimletref26_binds_r12 []) .ret))))⟩
theorem c_gimletref26_binds : compFn Try.prog F_gimletref26_binds = some n_gimletref26_binds := by kernel_rfl
abbrev F_gimletref26_closes : Nat := 60
@[go_sem] def n_gimletref26_closes_r0 : List NI := [
 ⟨0, some 2, none, .box (.tmp 0), []⟩,
 ⟨1, some 3, none, .box (.tmp 1), []⟩,
 ⟨2, some 4, none, .move (.const (.bool false)), []⟩]
@[go_sem] def n_gimletref26_closes_r1 : List NI := [
 ⟨0, some 5, none, .load (some 7) (.tmp 3), []⟩,
 ⟨1, some 6, none, .call (.const (.func 76 [] [])) [(.tmp 5), (.const (.bool false)), (.const (.bool true)), (.const (.bool false))], []⟩,
 ⟨2, some 7, none, .move (.tmp 6), []⟩,
 ⟨3, some 8, some (7, true), .fieldAddr 2 (.tmp 3), []⟩,
 ⟨4, some 9, some (7, true), .load none (.tmp 8), []⟩,
 ⟨5, some 10, some (7, true), .bin .geq (some .int) (.tmp 9) (.const (.int .i64 0)), []⟩,
 ⟨6, some 11, none, .pick (.tmp 7) (.tmp 10) (.const (.bool false)), []⟩,
 ⟨7, some 12, none, .move (.tmp 11), []⟩,
 ⟨8, some 13, some (12, true), .fieldAddr 2 (.tmp 3), []⟩,
 ⟨9, some 14, some (12, true), .load none (.tmp 13), []⟩,
 ⟨10, some 15, some (12, true), .fieldAddr 0 (.tmp 2), []⟩,
 ⟨11, some 16, some (12, true), .load none (.tmp 15), []⟩,
 ⟨12, some 17, some (12, true), .len .slice (.tmp 16), []⟩,
 ⟨13, some 18, some (12, true), .bin .lss (some .int) (.tmp 14) (.tmp 17), []⟩,
 ⟨14, some 19, none, .pick (.tmp 12) (.tmp 18) (.const (.bool false)), []⟩,
 ⟨15, some 20, none, .move (.tmp 19), []⟩,
 ⟨16, some 21, some (20, true), .fieldAddr 4 (.tmp 3), []⟩,
 ⟨17, some 22, some (20, true), .load none (.tmp 21), []⟩,
 ⟨18, some 23, some (20, true), .fieldAddr 0 (.tmp 2), []⟩,
 ⟨19, some 24, some (20, true), .load none (.tmp 23), []⟩,
 ⟨20, some 25, some (20, true), .fieldAddr 2 (.tmp 3), []⟩,
 ⟨21, some 26, some (20, true), .load none (.tmp 25), []⟩,
 ⟨22, some 27, some (20, true), .indexAddr 8 none (.tmp 24) (.tmp 26), []⟩,
 ⟨23, some 28, some (20, true), .fieldAddr 0 (.tmp 27), []⟩,
 ⟨24, some 29, some (20, true), .load none (.tmp 28), []⟩,
 ⟨25, some 30, some (20, true), .call (.const (.func 77 [] [])) [(.tmp 22), (.tmp 29)], []⟩,
 ⟨26, some 31, none, .pick (.tmp 20) (.tmp 30) (.const (.bool false)), []⟩,
 ⟨27, some 32, none, .move (.tmp 31), []⟩,
 ⟨28, some 33, some (32, true), .fieldAddr 6 (.tmp 3), []⟩,
 ⟨29, some 34, some (32, true), .load none (.tmp 33), []⟩,
 ⟨30, some 35, some (32, true), .len .slice (.tmp 34), []⟩,
 ⟨31, some 36, some (32, true), .bin .eql (some .int) (.tmp 35) (.const (.int .i64 0)), []⟩,
 ⟨32, some 37, none, .pick (.tmp 32) (.tmp 36) (.const (.bool false)), []⟩,
 ⟨33, some 4, none, .move (.tmp 37), []⟩]
@[go_sem] def n_gimletref26_closes : NFn := ⟨2, 38, [.slot 4], (.seq (.region n_gimletref26_closes_r0 []) (.seq (.region n_gimletref26_closes_r1 []) .ret))⟩
theorem c_gimletref26_closes : compFn Try.prog F_gimletref26_closes = some n_gimletref26_closes := by kernel_rfl
abbrev F_gimletref26_groups : Nat := 61
@[go_sem] def n_gimletref26_groups_r0 : List NI := [
 ⟨0, some 2, none, .box (.tmp 0), []⟩,
 ⟨1, some 3, none, .box (.tmp 1), []⟩,
 ⟨2, some 4, none, .move (.const (.bool false)), []⟩]
@[go_sem] def n_gimletref26_groups_r1 : List NI := [
 ⟨0, some 7, none, .fieldAddr 5 (.tmp 3), []⟩,
 ⟨1, some 8, none, .load none (.tmp 7), []⟩,
 ⟨2, some 9, none, .len .slice (.tmp 8), []⟩,
 ⟨3, some 5, none, .move (.tmp 9), []⟩]
@[go_sem] def n_gimletref26_groups_r2 : List NI := [
 ⟨0, some 10, none, .load (some 7) (.tmp 3), []⟩,
 ⟨1, some 11, none, .call (.const (.func 76 [] [])) [(.tmp 10), (.const (.bool true)), (.const (.bool false)), (.const (.bool true))], []⟩,
 ⟨2, some 12, none, .un .not (.tmp 11), []⟩,
 ⟨3, some 13, none, .move (.tmp 12), []⟩,
 ⟨4, some 14, some (13, false), .move (.tmp 5), []⟩,
 ⟨5, some 15, some (13, false), .bin .lss (some .int) (.tmp 14) (.const (.int .i64 1)), []⟩,
 ⟨6, some 16, none, .pick (.tmp 13) (.const (.bool true)) (.tmp 15), []⟩,
 ⟨7, some 17, none, .move (.tmp 16), []⟩,
 ⟨8, some 18, some (17, false), .move (.tmp 5), []⟩,
 ⟨9, some 19, some (17, false), .bin .gtr (some .int) (.tmp 18) (.const (.int .i64 1024)), []⟩,
 ⟨10, some 20, none, .pick (.tmp 17) (.const (.bool true)) (.tmp 19), []⟩,
 ⟨11, some 21, none, .move (.tmp 20), []⟩,
 ⟨12, some 22, some (21, false), .fieldAddr 1 (.tmp 3), []⟩,
 ⟨13, some 23, some (21, false), .load none (.tmp 22), []⟩,
 ⟨14, some 24, some (21, false), .bin .lss (some .int) (.tmp 23) (.const (.int .i64 0)), []⟩,
 ⟨15, some 25, none, .pick (.tmp 21) (.const (.bool true)) (.tmp 24), []⟩,
 ⟨16, some 26, none, .move (.tmp 25), []⟩,
 ⟨17, some 27, some (26, false), .fieldAddr 1 (.tmp 3), []⟩,
 ⟨18, some 28, some (26, false), .load none (.tmp 27), []⟩,
 ⟨19, some 29, some (26, false), .move (.tmp 5), []⟩,
 ⟨20, some 30, some (26, false), .bin .sub (some .int) (.const (.int .i64 1048575)) (.tmp 29), []⟩,
 ⟨21, some 31, some (26, false), .bin .add (some .int) (.tmp 30) (.const (.int .i64 1)), []⟩,
 ⟨22, some 32, some (26, false), .bin .gtr (some .int) (.tmp 28) (.tmp 31), []⟩,
 ⟨23, some 33, none, .pick (.tmp 26) (.const (.bool true)) (.tmp 32), []⟩,
 ⟨24, some 34, none, .move (.tmp 33), []⟩,
 ⟨25, some 35, some (34, false), .fieldAddr 4 (.tmp 3), []⟩,
 ⟨26, some 36, some (34, false), .load none (.tmp 35), []⟩,
 ⟨27, some 37, some (34, false), .fieldAddr 4 (.tmp 3), []⟩,
 ⟨28, some 38, some (34, false), .load none (.tmp 37), []⟩,
 ⟨29, some 39, some (34, false), .len .slice (.tmp 38), []⟩,
 ⟨30, some 40, some (34, false), .call (.const (.func 77 [] [])) [(.tmp 36), (.tmp 39)], []⟩,
 ⟨31, some 41, some (34, false), .un .not (.tmp 40), []⟩,
 ⟨32, some 42, none, .pick (.tmp 34) (.const (.bool true)) (.tmp 41), []⟩,
 ⟨33, some 43, none, .move (.tmp 42), []⟩,
 ⟨34, some 44, some (43, false), .fieldAddr 6 (.tmp 3), []⟩,
 ⟨35, some 45, some (43, false), .load none (.tmp 44), []⟩,
 ⟨36, some 46, some (43, false), .len .slice (.tmp 45), []⟩,
 ⟨37, some 47, some (43, false), .bin .neq (some .int) (.tmp 46) (.const (.int .i64 1)), []⟩,
 ⟨38, some 48, none, .pick (.tmp 43) (.const (.bool true)) (.tmp 47), []⟩]
@[go_sem] def n_gimletref26_groups_r3 : List NI := [
 ⟨0, some 4, none, .move (.const (.bool false)), []⟩]
@[go_sem] def n_gimletref26_groups_r4 : List NI := [
 ⟨0, some 6, none, .move (.const (.int .i64 0)), []⟩]
@[go_sem] def n_gimletref26_groups_r5 : List NI := [
 ⟨0, some 49, none, .move (.tmp 6), []⟩,
 ⟨1, some 50, none, .move (.tmp 5), []⟩,
 ⟨2, some 51, none, .bin .lss (some .int) (.tmp 49) (.tmp 50), []⟩]
@[go_sem] def n_gimletref26_groups_r6 : List NI := [
 ⟨0, some 54, none, .fieldAddr 5 (.tmp 3), []⟩,
 ⟨1, some 55, none, .load none (.tmp 54), []⟩,
 ⟨2, some 56, none, .move (.tmp 6), []⟩,
 ⟨3, some 57, none, .indexAddr 1 none (.tmp 55) (.tmp 56), []⟩,
 ⟨4, some 58, none, .load none (.tmp 57), []⟩,
 ⟨5, some 59, none, .bin .lss (some .int) (.tmp 58) (.const (.int .i64 0)), []⟩,
 ⟨6, some 60, none, .move (.tmp 59), []⟩,
 ⟨7, some 61, some (60, false), .fieldAddr 5 (.tmp 3), []⟩,
 ⟨8, some 62, some (60, false), .load none (.tmp 61), []⟩,
 ⟨9, some 63, some (60, false), .move (.tmp 6), []⟩,
 ⟨10, some 64, some (60, false), .indexAddr 1 none (.tmp 62) (.tmp 63), []⟩,
 ⟨11, some 65, some (60, false), .load none (.tmp 64), []⟩,
 ⟨12, some 66, some (60, false), .fieldAddr 0 (.tmp 2), []⟩,
 ⟨13, some 67, some (60, false), .load none (.tmp 66), []⟩,
 ⟨14, some 68, some (60, false), .len .slice (.tmp 67), []⟩,
 ⟨15, some 69, some (60, false), .bin .geq (some .int) (.tmp 65) (.tmp 68), []⟩,
 ⟨16, some 70, none, .pick (.tmp 60) (.const (.bool true)) (.tmp 69), []⟩,
 ⟨17, some 71, none, .move (.tmp 70), []⟩,
 ⟨18, some 72, some (71, false), .fieldAddr 0 (.tmp 2), []⟩,
 ⟨19, some 73, some (71, false), .load none (.tmp 72), []⟩,
 ⟨20, some 74, some (71, false), .fieldAddr 5 (.tmp 3), []⟩,
 ⟨21, some 75, some (71, false), .load none (.tmp 74), []⟩,
 ⟨22, some 76, some (71, false), .move (.tmp 6), []⟩,
 ⟨23, some 77, some (71, false), .indexAddr 1 none (.tmp 75) (.tmp 76), []⟩,
 ⟨24, some 78, some (71, false), .load none (.tmp 77), []⟩,
 ⟨25, some 79, some (71, false), .indexAddr 8 none (.tmp 73) (.tmp 78), []⟩,
 ⟨26, some 80, some (71, false), .fieldAddr 0 (.tmp 79), []⟩,
 ⟨27, some 81, some (71, false), .load none (.tmp 80), []⟩,
 ⟨28, some 82, some (71, false), .fieldAddr 4 (.tmp 3), []⟩,
 ⟨29, some 83, some (71, false), .load none (.tmp 82), []⟩,
 ⟨30, some 84, some (71, false), .len .slice (.tmp 83), []⟩,
 ⟨31, some 85, some (71, false), .move (.tmp 5), []⟩,
 ⟨32, some 86, some (71, false), .bin .add (some .int) (.tmp 84) (.tmp 85), []⟩,
 ⟨33, some 87, some (71, false), .bin .neq (some .int) (.tmp 81) (.tmp 86), []⟩,
 ⟨34, some 88, none, .pick (.tmp 71) (.const (.bool true)) (.tmp 87), []⟩]
@[go_sem] def n_gimletref26_groups_r7 : List NI := [
 ⟨0, some 4, none, .move (.const (.bool false)), []⟩]
@[go_sem] def n_gimletref26_groups_r8 : List NI := [
 ⟨0, some 52, none, .move (.tmp 6), []⟩,
 ⟨1, some 53, none, .bin .add (some .int) (.tmp 52) (.const (.int .i64 1)), []⟩,
 ⟨2, some 6, none, .move (.tmp 53), []⟩]
def n_gimletref26_groups_l9 : NC := (.seq (.seq (.region n_gimletref26_groups_r5 []) (.cond (.tmp 51) .skip (.exit 0))) (.seq (.block 1 (.seq (.region n_gimletref26_groups_r6 []) (.cond (.tmp 88) (.seq (.region n_gimletref26_groups_r7 []) .ret) .skip))) (.region n_gimletref26_groups_r8 [])))
@[go_sem] def n_gimletref26_groups_r10 : List NI := [
 ⟨0, some 4, none, .move (.const (.bool true)), []⟩]
@[go_sem] def n_gimletref26_groups : NFn := ⟨2, 89, [.slot 4], (.seq (.region n_gimletref26_groups_r0 []) (.seq (.region n_gimletref26_groups_r1 []) (.seq (.seq (.region n_gimletref26_groups_r2 []) (.cond (.tmp 48) (.seq (.region n_gimletref26_groups_r3 []) .ret) .skip)) (.seq (.seq (.region n_gimletref26_groups_r4 []) (.block 0 (.loop n_gimletref26_groups_l9))) (.seq (.region n_gimletref26_groups_r10 []) .ret)))))⟩
theorem c_gimletref26_groups : compFn Try.prog F_gimletref26_groups = some n_gimletref26_groups := by kernel_rfl
abbrev F_gimletref25_Own : Nat := 62
@[go_sem] def n_gimletref25_Own_r0 : List NI := [
 ⟨0, some 1, none, .box (.tmp 0), []⟩,
 ⟨1, some 2, none, .move (.const (.bool false)), []⟩]
@[go_sem] def n_gimletref25_Own_r1 : List NI := [
 ⟨0, some 5, none, .fieldAddr 6 (.tmp 1), []⟩,
 ⟨1, some 6, none, .load none (.tmp 5), []⟩,
 ⟨2, some 7, none, .len .slice (.tmp 6), []⟩,
 ⟨3, some 3, none, .move (.tmp 7), []⟩]
@[go_sem] def n_gimletref25_Own_r2 : List NI := [
 ⟨0, some 8, none, .fieldAddr 0 (.tmp 1), []⟩,
 ⟨1, some 9, none, .load none (.tmp 8), []⟩]
@[go_sem] def n_gimletref25_Own_r3 : List NI := [
 ⟨0, some 11, none, .bin .eql (some .int) (.tmp 9) (.const (.int .i64 1)), []⟩,
 ⟨1, some 10, none, .move (.tmp 11), []⟩]
@[go_sem] def n_gimletref25_Own_r4 : List NI := [
 ⟨0, some 12, none, .bin .eql (some .int) (.tmp 9) (.const (.int .i64 12)), []⟩,
 ⟨1, some 10, none, .move (.tmp 12), []⟩]
@[go_sem] def n_gimletref25_Own_r5 : List NI := [
 ⟨0, some 13, none, .load (some 7) (.tmp 1), []⟩,
 ⟨1, some 14, none, .call (.const (.func 78 [] [])) [(.tmp 13), (.const (.bool false)), (.const (.bool false)), (.const (.bool false)), (.const (.bool false))], []⟩,
 ⟨2, some 15, none, .move (.tmp 14), []⟩,
 ⟨3, some 16, some (15, true), .fieldAddr 4 (.tmp 1), []⟩,
 ⟨4, some 17, some (15, true), .load none (.tmp 16), []⟩,
 ⟨5, some 18, some (15, true), .call (.const (.func 77 [] [])) [(.tmp 17), (.const (.int .i64 1))], []⟩,
 ⟨6, some 19, none, .pick (.tmp 15) (.tmp 18) (.const (.bool false)), []⟩,
 ⟨7, some 20, none, .move (.tmp 19), []⟩,
 ⟨8, some 21, some (20, true), .move (.tmp 3), []⟩,
 ⟨9, some 22, some (20, true), .bin .eql (some .int) (.tmp 21) (.const (.int .i64 0)), []⟩,
 ⟨10, some 23, none, .pick (.tmp 20) (.tmp 22) (.const (.bool false)), []⟩,
 ⟨11, some 2, none, .move (.tmp 23), []⟩]
@[go_sem] def n_gimletref25_Own_r6 : List NI := [
 ⟨0, some 25, none, .bin .eql (some .int) (.tmp 9) (.const (.int .i64 2)), []⟩,
 ⟨1, some 24, none, .move (.tmp 25), []⟩]
@[go_sem] def n_gimletref25_Own_r7 : List NI := [
 ⟨0, some 26, none, .bin .eql (some .int) (.tmp 9) (.const (.int .i64 11)), []⟩,
 ⟨1, some 24, none, .move (.tmp 26), []⟩]
@[go_sem] def n_gimletref25_Own_r8 : List NI := [
 ⟨0, some 27, none, .load (some 7) (.tmp 1), []⟩,
 ⟨1, some 28, none, .call (.const (.func 78 [] [])) [(.tmp 27), (.const (.bool true)), (.const (.bool false)), (.const (.bool false)), (.const (.bool false))], []⟩,
 ⟨2, some 29, none, .move (.tmp 28), []⟩,
 ⟨3, some 30, some (29, true), .fieldAddr 1 (.tmp 1), []⟩,
 ⟨4, some 31, some (29, true), .load none (.tmp 30), []⟩,
 ⟨5, some 32, some (29, true), .call (.const (.func 79 [] [])) [(.tmp 31)], []⟩,
 ⟨6, some 33, none, .pick (.tmp 29) (.tmp 32) (.const (.bool false)), []⟩,
 ⟨7, some 34, none, .move (.tmp 33), []⟩,
 ⟨8, some 35, some (34, true), .fieldAddr 4 (.tmp 1), []⟩,
 ⟨9, some 36, some (34, true), .load none (.tmp 35), []⟩,
 ⟨10, some 37, some (34, true), .len .slice (.tmp 36), []⟩,
 ⟨11, some 38, some (34, true), .bin .eql (some .int) (.tmp 37) (.const (.int .i64 0)), []⟩,
 ⟨12, some 39, none, .pick (.tmp 34) (.tmp 38) (.const (.bool false)), []⟩,
 ⟨13, some 40, none, .move (.tmp 39), []⟩,
 ⟨14, some 41, some (40, true), .move (.tmp 3), []⟩,
 ⟨15, some 42, some (40, true), .bin .eql (some .int) (.tmp 41) (.const (.int .i64 2)), []⟩,
 ⟨16, some 43, none, .pick (.tmp 40) (.tmp 42) (.const (.bool false)), []⟩,
 ⟨17, some 2, none, .move (.tmp 43), []⟩]
@[go_sem] def n_gimletref25_Own_r9 : List NI := [
 ⟨0, some 45, none, .bin .eql (some .int) (.tmp 9) (.const (.int .i64 3)), []⟩,
 ⟨1, some 44, none, .move (.tmp 45), []⟩]
@[go_sem] def n_gimletref25_Own_r10 : List NI := [
 ⟨0, some 46, none, .load (some 7) (.tmp 1), []⟩,
 ⟨1, some 47, none, .call (.const (.func 78 [] [])) [(.tmp 46), (.const (.bool false)), (.const (.bool false)), (.const (.bool true)), (.const (.bool false))], []⟩,
 ⟨2, some 48, none, .move (.tmp 47), []⟩,
 ⟨3, some 49, some (48, true), .fieldAddr 3 (.tmp 1), []⟩,
 ⟨4, some 50, some (48, true), .load none (.tmp 49), []⟩,
 ⟨5, some 51, some (48, true), .call (.const (.func 80 [] [])) [(.tmp 50)], []⟩,
 ⟨6, some 52, some (48, true), .bin .gtr (some .int) (.tmp 51) (.const (.int .i64 0)), []⟩,
 ⟨7, some 53, none, .pick (.tmp 48) (.tmp 52) (.const (.bool false)), []⟩,
 ⟨8, some 54, none, .move (.tmp 53), []⟩,
 ⟨9, some 55, some (54, true), .fieldAddr 4 (.tmp 1), []⟩,
 ⟨10, some 56, some (54, true), .load none (.tmp 55), []⟩,
 ⟨11, some 57, some (54, true), .fieldAddr 3 (.tmp 1), []⟩,
 ⟨12, some 58, some (54, true), .load none (.tmp 57), []⟩,
 ⟨13, some 59, some (54, true), .call (.const (.func 80 [] [])) [(.tmp 58)], [((some 56), (some (54, true)), .load none (.tmp 55))]⟩,
 ⟨14, some 60, some (54, true), .call (.const (.func 77 [] [])) [(.tmp 56), (.tmp 59)], []⟩,
 ⟨15, some 61, none, .pick (.tmp 54) (.tmp 60) (.const (.bool false)), []⟩,
 ⟨16, some 62, none, .move (.tmp 61), []⟩,
 ⟨17, some 63, some (62, true), .move (.tmp 3), []⟩,
 ⟨18, some 64, some (62, true), .bin .eql (some .int) (.tmp 63) (.const (.int .i64 0)), []⟩,
 ⟨19, some 65, none, .pick (.tmp 62) (.tmp 64) (.const (.bool false)), []⟩,
 ⟨20, some 2, none, .move (.tmp 65), []⟩]
@[go_sem] def n_gimletref25_Own_r11 : List NI := [
 ⟨0, some 67, none, .bin .eql (some .int) (.tmp 9) (.const (.int .i64 4)), []⟩,
 ⟨1, some 66, none, .move (.tmp 67), []⟩]
@[go_sem] def n_gimletref25_Own_r12 : List NI := [
 ⟨0, some 68, none, .load (some 7) (.tmp 1), []⟩,
 ⟨1, some 69, none, .call (.const (.func 78 [] [])) [(.tmp 68), (.const (.bool false)), (.const (.bool true)), (.const (.bool false)), (.const (.bool false))], []⟩,
 ⟨2, some 70, none, .move (.tmp 69), []⟩,
 ⟨3, some 71, some (70, true), .fieldAddr 2 (.tmp 1), []⟩,
 ⟨4, some 72, some (70, true), .load none (.tmp 71), []⟩,
 ⟨5, some 73, some (70, true), .call (.const (.func 79 [] [])) [(.tmp 72)], []⟩,
 ⟨6, some 74, none, .pick (.tmp 70) (.tmp 73) (.const (.bool false)), []⟩,
 ⟨7, some 75, none, .move (.tmp 74), []⟩,
 ⟨8, some 76, some (75, true), .fieldAddr 4 (.tmp 1), []⟩,
 ⟨9, some 77, some (75, true), .load none (.tmp 76), []⟩,
 ⟨10, some 78, some (75, true), .len .slice (.tmp 77), []⟩,
 ⟨11, some 79, some (75, true), .bin .leq (some .int) (.tmp 78) (.const (.int .i64 1024)), []⟩,
 ⟨12, some 80, none, .pick (.tmp 75) (.tmp 79) (.const (.bool false)), []⟩,
 ⟨13, some 81, none, .move (.tmp 80), []⟩,
 ⟨14, some 82, some (81, true), .fieldAddr 4 (.tmp 1), []⟩,
 ⟨15, some 83, some (81, true), .load none (.tmp 82), []⟩,
 ⟨16, some 84, some (81, true), .fieldAddr 4 (.tmp 1), []⟩,
 ⟨17, some 85, some (81, true), .load none (.tmp 84), []⟩,
 ⟨18, some 86, some (81, true), .len .slice (.tmp 85), []⟩,
 ⟨19, some 87, some (81, true), .call (.const (.func 77 [] [])) [(.tmp 83), (.tmp 86)], []⟩,
 ⟨20, some 88, none, .pick (.tmp 81) (.tmp 87) (.const (.bool false)), []⟩,
 ⟨21, some 89, none, .move (.tmp 88), []⟩,
 ⟨22, some 90, some (89, true), .move (.tmp 3), []⟩,
 ⟨23, some 91, some (89, true), .bin .eql (some .int) (.tmp 90) (.const (.int .i64 0)), []⟩,
 ⟨24, some 92, none, .pick (.tmp 89) (.tmp 91) (.const (.bool false)), []⟩,
 ⟨25, some 2, none, .move (.tmp 92), []⟩]
@[go_sem] def n_gimletref25_Own_r13 : List NI := [
 ⟨0, some 94, none, .bin .eql (some .int) (.tmp 9) (.const (.int .i64 5)), []⟩,
 ⟨1, some 93, none, .move (.tmp 94), []⟩]
@[go_sem] def n_gimletref25_Own_r14 : List NI := [
 ⟨0, some 95, none, .load (some 7) (.tmp 1), []⟩,
 ⟨1, some 96, none, .call (.const (.func 78 [] [])) [(.tmp 95), (.const (.bool false)), (.const (.bool true)), (.const (.bool false)), (.const (.bool false))], []⟩,
 ⟨2, some 97, none, .move (.tmp 96), []⟩,
 ⟨3, some 98, some (97, true), .fieldAddr 2 (.tmp 1), []⟩,
 ⟨4, some 99, some (97, true), .load none (.tmp 98), []⟩,
 ⟨5, some 100, some (97, true), .bin .geq (some .int) (.tmp 99) (.const (.int .i64 0)), []⟩,
 ⟨6, some 101, none, .pick (.tmp 97) (.tmp 100) (.const (.bool false)), []⟩,
 ⟨7, some 102, none, .move (.tmp 101), []⟩,
 ⟨8, some 103, some (102, true), .fieldAddr 2 (.tmp 1), []⟩,
 ⟨9, some 104, some (102, true), .load none (.tmp 103), []⟩,
 ⟨10, some 105, some (102, true), .bin .lss (some .int) (.tmp 104) (.const (.int .i64 1024)), []⟩,
 ⟨11, some 106, none, .pick (.tmp 102) (.tmp 105) (.const (.bool false)), []⟩,
 ⟨12, some 107, none, .move (.tmp 106), []⟩,
 ⟨13, some 108, some (107, true), .fieldAddr 4 (.tmp 1), []⟩,
 ⟨14, some 109, some (107, true), .load none (.tmp 108), []⟩,
 ⟨15, some 110, some (107, true), .call (.const (.func 77 [] [])) [(.tmp 109), (.const (.int .i64 1))], []⟩,
 ⟨16, some 111, none, .pick (.tmp 107) (.tmp 110) (.const (.bool false)), []⟩,
 ⟨17, some 112, none, .move (.tmp 111), []⟩,
 ⟨18, some 113, some (112, true), .move (.tmp 3), []⟩,
 ⟨19, some 114, some (112, true), .bin .eql (some .int) (.tmp 113) (.const (.int .i64 0)), []⟩,
 ⟨20, some 115, none, .pick (.tmp 112) (.tmp 114) (.const (.bool false)), []⟩,
 ⟨21, some 2, none, .move (.tmp 115), []⟩]
@[go_sem] def n_gimletref25_Own_r15 : List NI := [
 ⟨0, some 117, none, .bin .eql (some .int) (.tmp 9) (.const (.int .i64 6)), []⟩,
 ⟨1, some 116, none, .move (.tmp 117), []⟩]
@[go_sem] def n_gimletref25_Own_r16 : List NI := [
 ⟨0, some 118, none, .load (some 7) (.tmp 1), []⟩,
 ⟨1, some 119, none, .call (.const (.func 78 [] [])) [(.tmp 118), (.const (.bool false)), (.const (.bool false)), (.const (.bool false)), (.const (.bool false))], []⟩,
 ⟨2, some 120, none, .move (.tmp 119), []⟩,
 ⟨3, some 121, some (120, true), .fieldAddr 4 (.tmp 1), []⟩,
 ⟨4, some 122, some (120, true), .load none (.tmp 121), []⟩,
 ⟨5, some 123, some (120, true), .call (.const (.func 77 [] [])) [(.tmp 122), (.const (.int .i64 2))], []⟩,
 ⟨6, some 124, none, .pick (.tmp 120) (.tmp 123) (.const (.bool false)), []⟩,
 ⟨7, some 125, none, .move (.tmp 124), []⟩,
 ⟨8, some 126, some (125, true), .move (.tmp 3), []⟩,
 ⟨9, some 127, some (125, true), .bin .eql (some .int) (.tmp 126) (.const (.int .i64 0)), []⟩,
 ⟨10, some 128, none, .pick (.tmp 125) (.tmp 127) (.const (.bool false)), []⟩,
 ⟨11, some 2, none, .move (.tmp 128), []⟩]
@[go_sem] def n_gimletref25_Own_r17 : List NI := [
 ⟨0, some 130, none, .bin .eql (some .int) (.tmp 9) (.const (.int .i64 9)), []⟩,
 ⟨1, some 129, none, .move (.tmp 130), []⟩]
@[go_sem] def n_gimletref25_Own_r18 : List NI := [
 ⟨0, some 131, none, .bin .eql (some .int) (.tmp 9) (.const (.int .i64 10)), []⟩,
 ⟨1, some 129, none, .move (.tmp 131), []⟩]
@[go_sem] def n_gimletref25_Own_r19 : List NI := [
 ⟨0, some 132, none, .move (.tmp 3), []⟩,
 ⟨1, some 133, none, .bin .geq (some .int) (.tmp 132) (.const (.int .i64 1)), []⟩,
 ⟨2, some 134, none, .move (.tmp 133), []⟩,
 ⟨3, some 135, some (134, true), .move (.tmp 3), []⟩,
 ⟨4, some 136, some (134, true), .fieldAddr 5 (.tmp 1), []⟩,
 ⟨5, some 137, some (134, true), .load none (.tmp 136), []⟩,
 ⟨6, some 138, some (134, true), .len .slice (.tmp 137), []⟩,
 ⟨7, some 139, some (134, true), .bin .eql (some .int) (.tmp 135) (.tmp 138), []⟩,
 ⟨8, some 140, some (134, true), .move (.tmp 139), []⟩,
 ⟨9, some 141, some (140, false), .move (.tmp 3), []⟩,
 ⟨10, some 142, some (140, false), .fieldAddr 5 (.tmp 1), []⟩,
 ⟨11, some 143, some (140, false), .load none (.tmp 142), []⟩,
 ⟨12, some 144, some (140, false), .len .slice (.tmp 143), []⟩,
 ⟨13, some 145, some (140, false), .bin .add (some .int) (.tmp 144) (.const (.int .i64 1)), []⟩,
 ⟨14, some 146, some (140, false), .bin .eql (some .int) (.tmp 141) (.tmp 145), []⟩,
 ⟨15, some 147, some (134, true), .pick (.tmp 140) (.const (.bool true)) (.tmp 146), []⟩,
 ⟨16, some 148, none, .pick (.tmp 134) (.tmp 147) (.const (.bool false)), []⟩,
 ⟨17, some 4, none, .move (.tmp 148), []⟩]
@[go_sem] def n_gimletref25_Own_r20 : List NI := [
 ⟨0, some 149, none, .load (some 7) (.tmp 1), []⟩,
 ⟨1, some 150, none, .call (.const (.func 78 [] [])) [(.tmp 149), (.const (.bool false)), (.const (.bool false)), (.const (.bool false)), (.const (.bool true))], []⟩,
 ⟨2, some 151, none, .move (.tmp 150), []⟩,
 ⟨3, some 152, some (151, true), .fieldAddr 4 (.tmp 1), []⟩,
 ⟨4, some 153, some (151, true), .load none (.tmp 152), []⟩,
 ⟨5, some 154, some (151, true), .call (.const (.func 77 [] [])) [(.tmp 153), (.const (.int .i64 1))], []⟩,
 ⟨6, some 155, none, .pick (.tmp 151) (.tmp 154) (.const (.bool false)), []⟩,
 ⟨7, some 156, none, .move (.tmp 155), []⟩,
 ⟨8, some 157, some (156, true), .fieldAddr 5 (.tmp 1), []⟩,
 ⟨9, some 158, some (156, true), .load none (.tmp 157), []⟩,
 ⟨10, some 159, some (156, true), .fieldAddr 0 (.tmp 1), []⟩,
 ⟨11, some 160, some (156, true), .load none (.tmp 159), []⟩,
 ⟨12, some 161, some (156, true), .bin .eql (some .int) (.tmp 160) (.const (.int .i64 10)), []⟩,
 ⟨13, some 162, some (156, true), .call (.const (.func 81 [] [])) [(.tmp 158), (.tmp 161)], []⟩,
 ⟨14, some 163, none, .pick (.tmp 156) (.tmp 162) (.const (.bool false)), []⟩,
 ⟨15, some 164, none, .move (.tmp 163), []⟩,
 ⟨16, some 165, some (164, true), .move (.tmp 4), []⟩,
 ⟨17, some 166, none, .pick (.tmp 164) (.tmp 165) (.const (.bool false)), []⟩,
 ⟨18, some 2, none, .move (.tmp 166), []⟩]
@[go_sem] def n_gimletref25_Own_r21 : List NI := [
 ⟨0, some 2, none, .move (.const (.bool false)), []⟩]
@[go_sem] def n_gimletref25_Own : NFn := ⟨1, 167, [.slot 2], (.seq (.region n_gimletref25_Own_r0 []) (.seq (.region n_gimletref25_Own_r1 []) (.seq (.seq (.region n_gimletref25_Own_r2 []) (.block 0 (.seq (.seq (.region n_gimletref25_Own_r3 []) (.cond (.tmp 10) .skip (.region n_gimletref25_Own_r4 []))) (.cond (.tmp 10) (.seq (.region n_gimletref25_Own_r5 []) .ret) (.seq (.seq (.region n_gimletref25_Own_r6 []) (.cond (.tmp 24) .skip (.region n_gimletref25_Own_r7 []))) (.cond (.tmp 24) (.seq (.region n_gimletref25_Own_r8 []) .ret) (.seq (.region n_gimletref25_Own_r9 []) (.cond (.tmp 44) (.seq (.region n_gimletref25_Own_r10 []) .ret) (.seq (.region n_gimletref25_Own_r11 []) (.cond (.tmp 66) (.seq (.region n_gimletref25_Own_r12 []) .ret) (.seq (.region n_gimletref25_Own_r13 []) (.cond (.tmp 93) (.seq (.region n_gimletref25_Own_r14 []) .ret) (.seq (.region n_gimletref25_Own_r15 []) (.cond (.tmp 116) (.seq (.region n_gimletref25_Own_r16 []) .ret) (.seq (.seq (.region n_gimletref25_Own_r17 []) (.cond (.tmp 129) .skip (.region n_gimletref25_Own_r18 []))) (.cond (.tmp 129) (.seq (.region n_gimletref25_Own_r19 []) (.seq (.region n_gimletref25_Own_r20 []) .ret)) .skip)))))))))))))))) (.seq (.region n_gimletref25_Own_r21 []) .ret))))⟩
theorem c_gimletref25_Own : compFn Try.prog F_gimletref25_Own = some n_gimletref25_Own := by kernel_rfl
abbrev F_gimletref26_plain : Nat := 76
@[go_sem] def n_gimletref26_plain_r0 : List NI := [
 ⟨0, some 4, none, .box (.tmp 0), []⟩,
 ⟨1, some 8, none, .move (.const (.bool false)), []⟩]
@[go_sem] def n_gimletref26_plain_r1 : List NI := [
 ⟨0, some 9, none, .move (.tmp 1), []⟩,
 ⟨1, some 10, none, .move (.tmp 9), []⟩,
 ⟨2, some 11, some (10, false), .fieldAddr 1 (.tmp 4), []⟩,
 ⟨3, some 12, some (10, false), .load none (.tmp 11), []⟩,
 ⟨4, some 13, some (10, false), .bin .eql (some .int) (.tmp 12) (.const (.int .i64 0)), []⟩,
 ⟨5, some 14, none, .pick (.tmp 10) (.const (.bool true)) (.tmp 13), []⟩,
 ⟨6, some 15, none, .move (.tmp 14), []⟩,
 ⟨7, some 16, some (15, true), .move (.tmp 2), []⟩,
 ⟨8, some 17, some (15, true), .move (.tmp 16), []⟩,
 ⟨9, some 18, some (17, false), .fieldAddr 2 (.tmp 4), []⟩,
 ⟨10, some 19, some (17, false), .load none (.tmp 18), []⟩,
 ⟨11, some 20, some (17, false), .bin .eql (some .int) (.tmp 19) (.const (.int .i64 0)), []⟩,
 ⟨12, some 21, some (15, true), .pick (.tmp 17) (.const (.bool true)) (.tmp 20), []⟩,
 ⟨13, some 22, none, .pick (.tmp 15) (.tmp 21) (.const (.bool false)), []⟩,
 ⟨14, some 23, none, .move (.tmp 22), []⟩,
 ⟨15, some 24, some (23, true), .move (.tmp 3), []⟩,
 ⟨16, some 25, some (23, true), .move (.tmp 24), []⟩,
 ⟨17, some 26, some (25, false), .fieldAddr 5 (.tmp 4), []⟩,
 ⟨18, some 27, some (25, false), .load none (.tmp 26), []⟩,
 ⟨19, some 28, some (25, false), .len .slice (.tmp 27), []⟩,
 ⟨20, some 29, some (25, false), .bin .eql (some .int) (.tmp 28) (.const (.int .i64 0)), []⟩,
 ⟨21, some 30, some (23, true), .pick (.tmp 25) (.const (.bool true)) (.tmp 29), []⟩,
 ⟨22, some 31, none, .pick (.tmp 23) (.tmp 30) (.const (.bool false)), []⟩,
 ⟨23, some 32, none, .move (.tmp 31), []⟩,
 ⟨24, some 33, some (32, true), .fieldAddr 3 (.tmp 4), []⟩,
 ⟨25, some 34, some (32, true), .load none (.tmp 33), []⟩,
 ⟨26, some 35, some (32, true), .bin .eql (some .str) (.tmp 34) (.const (.str [])), []⟩,
 ⟨27, some 36, none, .pick (.tmp 32) (.tmp 35) (.const (.bool false)), []⟩,
 ⟨28, some 8, none, .move (.tmp 36), []⟩]
@[go_sem] def n_gimletref26_plain : NFn := ⟨4, 37, [.slot 8], (.seq (.region n_gimletref26_plain_r0 []) (.seq (.region n_gimletref26_plain_r1 []) .ret))⟩
theorem c_gimletref26_plain : compFn Try.prog F_gimletref26_plain = some n_gimletref26_plain := by kernel_rfl
abbrev F_gimletref25_Atoms : Nat := 77
@[go_sem] def n_gimletref25_Atoms_r0 : List NI := [
 ⟨0, some 4, none, .move (.const (.bool false)), []⟩]
@[go_sem] def n_gimletref25_Atoms_r1 : List NI := [
 ⟨0, some 5, none, .move (.const (.int .i64 0)), []⟩]
@[go_sem] def n_gimletref25_Atoms_r2 : List NI := [
 ⟨0, some 6, none, .move (.tmp 5), []⟩,
 ⟨1, some 7, none, .move (.tmp 0), []⟩,
 ⟨2, some 8, none, .len .slice (.tmp 7), []⟩,
 ⟨3, some 9, none, .bin .lss (some .int) (.tmp 6) (.tmp 8), []⟩]
@[go_sem] def n_gimletref25_Atoms_r3 : List NI := [
 ⟨0, some 12, none, .move (.tmp 0), []⟩,
 ⟨1, some 13, none, .move (.tmp 5), []⟩,
 ⟨2, some 14, none, .indexAddr 3 none (.tmp 12) (.tmp 13), []⟩,
 ⟨3, some 15, none, .load (some 3) (.tmp 14), []⟩,
 ⟨4, some 16, none, .call (.const (.func 95 [] [])) [(.tmp 15)], []⟩,
 ⟨5, some 17, none, .un .not (.tmp 16), []⟩]
@[go_sem] def n_gimletref25_Atoms_r4 : List NI := [
 ⟨0, some 4, none, .move (.const (.bool false)), []⟩]
@[go_sem] def n_gimletref25_Atoms_r5 : List NI := [
 ⟨0, some 10, none, .move (.tmp 5), []⟩,
 ⟨1, some 11, none, .bin .add (some .int) (.tmp 10) (.const (.int .i64 1)), []⟩,
 ⟨2, some 5, none, .move (.tmp 11), []⟩]
def n_gimletref25_Atoms_l6 : NC := (.seq (.seq (.region n_gimletref25_Atoms_r2 []) (.cond (.tmp 9) .skip (.exit 0))) (.seq (.block 1 (.seq (.region n_gimletref25_Atoms_r3 []) (.cond (.tmp 17) (.seq (.region n_gimletref25_Atoms_r4 []) .ret) .skip))) (.region n_gimletref25_Atoms_r5 [])))
@[go_sem] def n_gimletref25_Atoms_r7 : List NI := [
 ⟨0, some 18, none, .move (.tmp 0), []⟩,
 ⟨1, some 19, none, .len .slice (.tmp 18), []⟩,
 ⟨2, some 20, none, .move (.tmp 1), []⟩,
 ⟨3, some 21, none, .bin .eql (some .int) (.tmp 19) (.tmp 20), []⟩,
 ⟨4, some 4, none, .move (.tmp 21), []⟩]
@[go_sem] def n_gimletref25_Atoms : NFn := ⟨2, 22, [.slot 4], (.seq (.region n_gimletref25_Atoms_r0 []) (.seq (.seq (.region n_gimletref25_Atoms_r1 []) (.block 0 (.loop n_gimletref25_Atoms_l6))) (.seq (.region n_gimletref25_Atoms_r7 []) .ret)))⟩
theorem c_gimletref25_Atoms : compFn Try.prog F_gimletref25_Atoms = some n_gimletref25_Atoms := by kernel_rfl
abbrev F_gimletref25_has : Nat := 78
@[go_sem] def n_gimletref25_has_r0 : List NI := [
 ⟨0, some 5, none, .box (.tmp 0), []⟩,
 ⟨1, some 10, none, .move (.const (.bool false)), []⟩]
@[go_sem] def n_gimletref25_has_r1 : List NI := [
 ⟨0, some 11, none, .move (.tmp 1), []⟩,
 ⟨1, some 12, none, .move (.tmp 11), []⟩,
 ⟨2, some 13, some (12, false), .fieldAddr 1 (.tmp 5), []⟩,
 ⟨3, some 14, some (12, false), .load none (.tmp 13), []⟩,
 ⟨4, some 15, some (12, false), .bin .eql (some .int) (.tmp 14) (.const (.int .i64 0)), []⟩,
 ⟨5, some 16, none, .pick (.tmp 12) (.const (.bool true)) (.tmp 15), []⟩,
 ⟨6, some 17, none, .move (.tmp 16), []⟩,
 ⟨7, some 18, some (17, true), .move (.tmp 2), []⟩,
 ⟨8, some 19, some (17, true), .move (.tmp 18), []⟩,
 ⟨9, some 20, some (19, false), .fieldAddr 2 (.tmp 5), []⟩,
 ⟨10, some 21, some (19, false), .load none (.tmp 20), []⟩,
 ⟨11, some 22, some (19, false), .bin .eql (some .int) (.tmp 21) (.const (.int .i64 0)), []⟩,
 ⟨12, some 23, some (17, true), .pick (.tmp 19) (.const (.bool true)) (.tmp 22), []⟩,
 ⟨13, some 24, none, .pick (.tmp 17) (.tmp 23) (.const (.bool false)), []⟩,
 ⟨14, some 25, none, .move (.tmp 24), []⟩,
 ⟨15, some 26, some (25, true), .move (.tmp 3), []⟩,
 ⟨16, some 27, some (25, true), .move (.tmp 26), []⟩,
 ⟨17, some 28, some (27, false), .fieldAddr 3 (.tmp 5), []⟩,
 ⟨18, some 29, some (27, false), .load none (.tmp 28), []⟩,
 ⟨19, some 30, some (27, false), .bin .eql (some .str) (.tmp 29) (.const (.str [])), []⟩,
 ⟨20, some 31, some (25, true), .pick (.tmp 27) (.const (.bool true)) (.tmp 30), []⟩,
 ⟨21, some 32, none, .pick (.tmp 25) (.tmp 31) (.const (.bool false)), []⟩,
 ⟨22, some 33, none, .move (.tmp 32), []⟩,
 ⟨23, some 34, some (33, true), .move (.tmp 4), []⟩,
 ⟨24, some 35, some (33, true), .move (.tmp 34), []⟩,
 ⟨25, some 36, some (35, false), .fieldAddr 5 (.tmp 5), []⟩,
 ⟨26, some 37, some (35, false), .load none (.tmp 36), []⟩,
 ⟨27, some 38, some (35, false), .len .slice (.tmp 37), []⟩,
 ⟨28, some 39, some (35, false), .bin .eql (some .int) (.tmp 38) (.const (.int .i64 0)), []⟩,
 ⟨29, some 40, some (33, true), .pick (.tmp 35) (.const (.bool true)) (.tmp 39), []⟩,
 ⟨30, some 41, none, .pick (.tmp 33) (.tmp 40) (.const (.bool false)), []⟩,
 ⟨31, some 10, none, .move (.tmp 41), []⟩]
@[go_sem] def n_gimletref25_has : NFn := ⟨5, 42, [.slot 10], (.seq (.region n_gimletref25_has_r0 []) (.seq (.region n_gimletref25_has_r1 []) .ret))⟩
theorem c_gimletref25_has : compFn Try.prog F_gimletref25_has = some n_gimletref25_has := by kernel_rfl
abbrev F_gimletref25_variable : Nat := 79
@[go_sem] def n_gimletref25_variable_r0 : List NI := [
 ⟨0, some 2, none, .move (.const (.bool false)), []⟩]
@[go_sem] def n_gimletref25_variable_r1 : List NI := [
 ⟨0, some 3, none, .move (.tmp 0), []⟩,
 ⟨1, some 4, none, .bin .geq (some .int) (.tmp 3) (.const (.int .i64 0)), []⟩,
 ⟨2, some 5, none, .move (.tmp 4), []⟩,
 ⟨3, some 6, some (5, true), .move (.tmp 0), []⟩,
 ⟨4, some 7, some (5, true), .bin .leq (some .int) (.tmp 6) (.const (.int .i64 1048575)), []⟩,
 ⟨5, some 8, none, .pick (.tmp 5) (.tmp 7) (.const (.bool false)), []⟩,
 ⟨6, some 2, none, .move (.tmp 8), []⟩]
@[go_sem] def n_gimletref25_variable : NFn := ⟨1, 9, [.slot 2], (.seq (.region n_gimletref25_variable_r0 []) (.seq (.region n_gimletref25_variable_r1 []) .ret))⟩
theorem c_gimletref25_variable : compFn Try.prog F_gimletref25_variable = some n_gimletref25_variable := by kernel_rfl
abbrev F_gimletref25_Takes : Nat := 80
@[go_sem] def n_gimletref25_Takes_r0 : List NI := [
 ⟨0, some 2, none, .move (.const (.int .i64 0)), []⟩]
@[go_sem] def n_gimletref25_Takes_r1 : List NI := [
 ⟨0, some 3, none, .move (.tmp 0), []⟩]
@[go_sem] def n_gimletref25_Takes_r2 : List NI := [
 ⟨0, some 5, none, .bin .eql (some .str) (.tmp 3) (.const (.str [97, 100, 100])), []⟩,
 ⟨1, some 4, none, .move (.tmp 5), []⟩]
@[go_sem] def n_gimletref25_Takes_r3 : List NI := [
 ⟨0, some 6, none, .bin .eql (some .str) (.tmp 3) (.const (.str [115, 117, 98])), []⟩,
 ⟨1, some 4, none, .move (.tmp 6), []⟩]
@[go_sem] def n_gimletref25_Takes_r4 : List NI := [
 ⟨0, some 7, none, .bin .eql (some .str) (.tmp 3) (.const (.str [109, 117, 108])), []⟩,
 ⟨1, some 4, none, .move (.tmp 7), []⟩]
@[go_sem] def n_gimletref25_Takes_r5 : List NI := [
 ⟨0, some 8, none, .bin .eql (some .str) (.tmp 3) (.const (.str [100, 105, 118])), []⟩,
 ⟨1, some 4, none, .move (.tmp 8), []⟩]
@[go_sem] def n_gimletref25_Takes_r6 : List NI := [
 ⟨0, some 9, none, .bin .eql (some .str) (.tmp 3) (.const (.str [109, 111, 100])), []⟩,
 ⟨1, some 4, none, .move (.tmp 9), []⟩]
@[go_sem] def n_gimletref25_Takes_r7 : List NI := [
 ⟨0, some 10, none, .bin .eql (some .str) (.tmp 3) (.const (.str [101, 113])), []⟩,
 ⟨1, some 4, none, .move (.tmp 10), []⟩]
@[go_sem] def n_gimletref25_Takes_r8 : List NI := [
 ⟨0, some 11, none, .bin .eql (some .str) (.tmp 3) (.const (.str [108, 116])), []⟩,
 ⟨1, some 4, none, .move (.tmp 11), []⟩]
@[go_sem] def n_gimletref25_Takes_r9 : List NI := [
 ⟨0, some 12, none, .bin .eql (some .str) (.tmp 3) (.const (.str [108, 101])), []⟩,
 ⟨1, some 4, none, .move (.tmp 12), []⟩]
@[go_sem] def n_gimletref25_Takes_r10 : List NI := [
 ⟨0, some 13, none, .bin .eql (some .str) (.tmp 3) (.const (.str [98, 121, 116, 101])), []⟩,
 ⟨1, some 4, none, .move (.tmp 13), []⟩]
@[go_sem] def n_gimletref25_Takes_r11 : List NI := [
 ⟨0, some 14, none, .bin .eql (some .str) (.tmp 3) (.const (.str [106, 111, 105, 110])), []⟩,
 ⟨1, some 4, none, .move (.tmp 14), []⟩]
@[go_sem] def n_gimletref25_Takes_r12 : List NI := [
 ⟨0, some 15, none, .bin .eql (some .str) (.tmp 3) (.const (.str [115, 101, 116])), []⟩,
 ⟨1, some 4, none, .move (.tmp 15), []⟩]
@[go_sem] def n_gimletref25_Takes_r13 : List NI := [
 ⟨0, some 2, none, .move (.const (.int .i64 2)), []⟩]
@[go_sem] def n_gimletref25_Takes_r14 : List NI := [
 ⟨0, some 17, none, .bin .eql (some .str) (.tmp 3) (.const (.str [110, 101, 103])), []⟩,
 ⟨1, some 16, none, .move (.tmp 17), []⟩]
@[go_sem] def n_gimletref25_Takes_r15 : List NI := [
 ⟨0, some 18, none, .bin .eql (some .str) (.tmp 3) (.const (.str [103, 101, 116, 99])), []⟩,
 ⟨1, some 16, none, .move (.tmp 18), []⟩]
@[go_sem] def n_gimletref25_Takes_r16 : List NI := [
 ⟨0, some 19, none, .bin .eql (some .str) (.tmp 3) (.const (.str [112, 117, 116, 99])), []⟩,
 ⟨1, some 16, none, .move (.tmp 19), []⟩]
@[go_sem] def n_gimletref25_Takes_r17 : List NI := [
 ⟨0, some 20, none, .bin .eql (some .str) (.tmp 3) (.const (.str [112, 117, 116, 115])), []⟩,
 ⟨1, some 16, none, .move (.tmp 20), []⟩]
@[go_sem] def n_gimletref25_Takes_r18 : List NI := [
 ⟨0, some 21, none, .bin .eql (some .str) (.tmp 3) (.const (.str [115, 105, 122, 101])), []⟩,
 ⟨1, some 16, none, .move (.tmp 21), []⟩]
@[go_sem] def n_gimletref25_Takes_r19 : List NI := [
 ⟨0, some 22, none, .bin .eql (some .str) (.tmp 3) (.const (.str [99, 104, 114])), []⟩,
 ⟨1, some 16, none, .move (.tmp 22), []⟩]
@[go_sem] def n_gimletref25_Takes_r20 : List NI := [
 ⟨0, some 2, none, .move (.const (.int .i64 1)), []⟩]
@[go_sem] def n_gimletref25_Takes_r21 : List NI := [
 ⟨0, some 24, none, .bin .eql (some .str) (.tmp 3) (.const (.str [99, 117, 116])), []⟩,
 ⟨1, some 23, none, .move (.tmp 24), []⟩]
@[go_sem] def n_gimletref25_Takes_r22 : List NI := [
 ⟨0, some 2, none, .move (.const (.int .i64 3)), []⟩]
@[go_sem] def n_gimletref25_Takes_r23 : List NI := [
 ⟨0, some 2, none, .move (.const (.int .i64 0)), []⟩]
@[go_sem] def n_gimletref25_Takes : NFn := ⟨1, 25, [.slot 2], (.seq (.region n_gimletref25_Takes_r0 []) (.seq (.seq (.region n_gimletref25_Takes_r1 []) (.block 0 (.seq (.seq (.region n_gimletref25_Takes_r2 []) (.cond (.tmp 4) .skip (.seq (.region n_gimletref25_Takes_r3 []) (.cond (.tmp 4) .skip (.seq (.region n_gimletref25_Takes_r4 []) (.cond (.tmp 4) .skip (.seq (.region n_gimletref25_Takes_r5 []) (.cond (.tmp 4) .skip (.seq (.region n_gimletref25_Takes_r6 []) (.cond (.tmp 4) .skip (.seq (.region n_gimletref25_Takes_r7 []) (.cond (.tmp 4) .skip (.seq (.region n_gimletref25_Takes_r8 []) (.cond (.tmp 4) .skip (.seq (.region n_gimletref25_Takes_r9 []) (.cond (.tmp 4) .skip (.seq (.region n_gimletref25_Takes_r10 []) (.cond (.tmp 4) .skip (.seq (.region n_gimletref25_Takes_r11 []) (.cond (.tmp 4) .skip (.region n_gimletref25_Takes_r12 []))))))))))))))))))))) (.cond (.tmp 4) (.seq (.region n_gimletref25_Takes_r13 []) .ret) (.seq (.seq (.region n_gimletref25_Takes_r14 []) (.cond (.tmp 16) .skip (.seq (.region n_gimletref25_Takes_r15 []) (.cond (.tmp 16) .skip (.seq (.region n_gimletref25_Takes_r16 []) (.cond (.tmp 16) .skip (.seq (.region n_gimletref25_Takes_r17 []) (.cond (.tmp 16) .skip (.seq (.region n_gimletref25_Takes_r18 []) (.cond (.tmp 16) .skip (.region n_gimletref25_Takes_r19 []))))))))))) (.cond (.tmp 16) (.seq (.region n_gimletref25_Takes_r20 []) .ret) (.seq (.region n_gimletref25_Takes_r21 []) (.cond (.tmp 23) (.seq (.region n_gimletref25_Takes_r22 []) .ret) .skip)))))))) (.seq (.region n_gimletref25_Takes_r23 []) .ret)))⟩
theorem c_gimletref25_Takes : compFn Try.prog F_gimletref25_Takes = some n_gimletref25_Takes := by kernel_rfl
abbrev F_gimletref25_tags : Nat := 81
@[go_sem] def n_gimletref25_tags_r0 : List NI := [
 ⟨0, some 4, none, .move (.const (.bool false)), []⟩]
@[go_sem] def n_gimletref25_tags_r1 : List NI := [
 ⟨0, some 5, none, .move (.const (.int .i64 0)), []⟩]
@[go_sem] def n_gimletref25_tags_r2 : List NI := [
 ⟨0, some 7, none, .move (.tmp 5), []⟩,
 ⟨1, some 8, none, .move (.tmp 0), []⟩,
 ⟨2, some 9, none, .len .slice (.tmp 8), []⟩,
 ⟨3, some 10, none, .bin .lss (some .int) (.tmp 7) (.tmp 9), []⟩]
@[go_sem] def n_gimletref25_tags_r3 : List NI := [
 ⟨0, some 13, none, .move (.tmp 1), []⟩,
 ⟨1, some 14, none, .move (.tmp 13), []⟩,
 ⟨2, some 15, some (14, true), .move (.tmp 0), []⟩,
 ⟨3, some 16, some (14, true), .move (.tmp 5), []⟩,
 ⟨4, some 17, some (14, true), .indexAddr 1 none (.tmp 15) (.tmp 16), []⟩,
 ⟨5, some 18, some (14, true), .load none (.tmp 17), []⟩,
 ⟨6, some 19, some (14, true), .call (.const (.func 96 [] [])) [(.tmp 18)], []⟩,
 ⟨7, some 20, some (14, true), .un .not (.tmp 19), []⟩,
 ⟨8, some 21, none, .pick (.tmp 14) (.tmp 20) (.const (.bool false)), []⟩,
 ⟨9, some 22, none, .move (.tmp 21), []⟩,
 ⟨10, some 23, some (22, false), .move (.tmp 1), []⟩,
 ⟨11, some 24, some (22, false), .un .not (.tmp 23), []⟩,
 ⟨12, some 25, some (22, false), .move (.tmp 24), []⟩,
 ⟨13, some 26, some (25, true), .move (.tmp 0), []⟩,
 ⟨14, some 27, some (25, true), .move (.tmp 5), []⟩,
 ⟨15, some 28, some (25, true), .indexAddr 1 none (.tmp 26) (.tmp 27), []⟩,
 ⟨16, some 29, some (25, true), .load none (.tmp 28), []⟩,
 ⟨17, some 30, some (25, true), .call (.const (.func 79 [] [])) [(.tmp 29)], []⟩,
 ⟨18, some 31, some (25, true), .un .not (.tmp 30), []⟩,
 ⟨19, some 32, some (22, false), .pick (.tmp 25) (.tmp 31) (.const (.bool false)), []⟩,
 ⟨20, some 33, none, .pick (.tmp 22) (.const (.bool true)) (.tmp 32), []⟩]
@[go_sem] def n_gimletref25_tags_r4 : List NI := [
 ⟨0, some 4, none, .move (.const (.bool false)), []⟩]
@[go_sem] def n_gimletref25_tags_r5 : List NI := [
 ⟨0, some 6, none, .move (.const (.int .i64 0)), []⟩]
@[go_sem] def n_gimletref25_tags_r6 : List NI := [
 ⟨0, some 34, none, .move (.tmp 6), []⟩,
 ⟨1, some 35, none, .move (.tmp 5), []⟩,
 ⟨2, some 36, none, .bin .lss (some .int) (.tmp 34) (.tmp 35), []⟩]
@[go_sem] def n_gimletref25_tags_r7 : List NI := [
 ⟨0, some 39, none, .move (.tmp 0), []⟩,
 ⟨1, some 40, none, .move (.tmp 6), []⟩,
 ⟨2, some 41, none, .indexAddr 1 none (.tmp 39) (.tmp 40), []⟩,
 ⟨3, some 42, none, .load none (.tmp 41), []⟩,
 ⟨4, some 43, none, .move (.tmp 0), []⟩,
 ⟨5, some 44, none, .move (.tmp 5), []⟩,
 ⟨6, some 45, none, .indexAddr 1 none (.tmp 43) (.tmp 44), []⟩,
 ⟨7, some 46, none, .load none (.tmp 45), []⟩,
 ⟨8, some 47, none, .bin .eql (some .int) (.tmp 42) (.tmp 46), []⟩]
@[go_sem] def n_gimletref25_tags_r8 : List NI := [
 ⟨0, some 4, none, .move (.const (.bool false)), []⟩]
@[go_sem] def n_gimletref25_tags_r9 : List NI := [
 ⟨0, some 37, none, .move (.tmp 6), []⟩,
 ⟨1, some 38, none, .bin .add (some .int) (.tmp 37) (.const (.int .i64 1)), []⟩,
 ⟨2, some 6, none, .move (.tmp 38), []⟩]
def n_gimletref25_tags_l10 : NC := (.seq (.seq (.region n_gimletref25_tags_r6 []) (.cond (.tmp 36) .skip (.exit 2))) (.seq (.block 3 (.seq (.region n_gimletref25_tags_r7 []) (.cond (.tmp 47) (.seq (.region n_gimletref25_tags_r8 []) .ret) .skip))) (.region n_gimletref25_tags_r9 [])))
@[go_sem] def n_gimletref25_tags_r11 : List NI := [
 ⟨0, some 11, none, .move (.tmp 5), []⟩,
 ⟨1, some 12, none, .bin .add (some .int) (.tmp 11) (.const (.int .i64 1)), []⟩,
 ⟨2, some 5, none, .move (.tmp 12), []⟩]
def n_gimletref25_tags_l12 : NC := (.seq (.seq (.region n_gimletref25_tags_r2 []) (.cond (.tmp 10) .skip (.exit 0))) (.seq (.block 1 (.seq (.seq (.region n_gimletref25_tags_r3 []) (.cond (.tmp 33) (.seq (.region n_gimletref25_tags_r4 []) .ret) .skip)) (.seq (.region n_gimletref25_tags_r5 []) (.block 2 (.loop n_gimletref25_tags_l10))))) (.region n_gimletref25_tags_r11 [])))
@[go_sem] def n_gimletref25_tags_r13 : List NI := [
 ⟨0, some 4, none, .move (.const (.bool true)), []⟩]
@[go_sem] def n_gimletref25_tags : NFn := ⟨2, 48, [.slot 4], (.seq (.region n_gimletref25_tags_r0 []) (.seq (.seq (.region n_gimletref25_tags_r1 []) (.block 0 (.loop n_gimletref25_tags_l12))) (.seq (.region n_gimletref25_tags_r13 []) .ret)))⟩
theorem c_gimletref25_tags : compFn Try.prog F_gimletref25_tags = some n_gimletref25_tags := by kernel_rfl
abbrev F_gimletref25_MayAtom : Nat := 95
@[go_sem] def n_gimletref25_MayAtom_r0 : List NI := [
 ⟨0, some 1, none, .box (.tmp 0), []⟩,
 ⟨1, some 2, none, .move (.const (.bool false)), []⟩]
@[go_sem] def n_gimletref25_MayAtom_r1 : List NI := [
 ⟨0, some 3, none, .fieldAddr 0 (.tmp 1), []⟩,
 ⟨1, some 4, none, .load none (.tmp 3), []⟩]
@[go_sem] def n_gimletref25_MayAtom_r2 : List NI := [
 ⟨0, some 6, none, .bin .eql (some .int) (.tmp 4) (.const (.int .i64 1)), []⟩,
 ⟨1, some 5, none, .move (.tmp 6), []⟩]
@[go_sem] def n_gimletref25_MayAtom_r3 : List NI := [
 ⟨0, some 7, none, .fieldAddr 1 (.tmp 1), []⟩,
 ⟨1, some 8, none, .load none (.tmp 7), []⟩,
 ⟨2, some 9, none, .call (.const (.func 79 [] [])) [(.tmp 8)], []⟩,
 ⟨3, some 10, none, .move (.tmp 9), []⟩,
 ⟨4, some 11, some (10, true), .fieldAddr 2 (.tmp 1), []⟩,
 ⟨5, some 12, some (10, true), .load none (.tmp 11), []⟩,
 ⟨6, some 13, some (10, true), .bin .eql (some .str) (.tmp 12) (.const (.str [])), []⟩,
 ⟨7, some 14, none, .pick (.tmp 10) (.tmp 13) (.const (.bool false)), []⟩,
 ⟨8, some 2, none, .move (.tmp 14), []⟩]
@[go_sem] def n_gimletref25_MayAtom_r4 : List NI := [
 ⟨0, some 16, none, .bin .eql (some .int) (.tmp 4) (.const (.int .i64 2)), []⟩,
 ⟨1, some 15, none, .move (.tmp 16), []⟩]
@[go_sem] def n_gimletref25_MayAtom_r5 : List NI := [
 ⟨0, some 17, none, .fieldAddr 1 (.tmp 1), []⟩,
 ⟨1, some 18, none, .load none (.tmp 17), []⟩,
 ⟨2, some 19, none, .call (.const (.func 96 [] [])) [(.tmp 18)], []⟩,
 ⟨3, some 20, none, .move (.tmp 19), []⟩,
 ⟨4, some 21, some (20, true), .fieldAddr 2 (.tmp 1), []⟩,
 ⟨5, some 22, some (20, true), .load none (.tmp 21), []⟩,
 ⟨6, some 23, some (20, true), .bin .eql (some .str) (.tmp 22) (.const (.str [])), []⟩,
 ⟨7, some 24, none, .pick (.tmp 20) (.tmp 23) (.const (.bool false)), []⟩,
 ⟨8, some 2, none, .move (.tmp 24), []⟩]
@[go_sem] def n_gimletref25_MayAtom_r6 : List NI := [
 ⟨0, some 26, none, .bin .eql (some .int) (.tmp 4) (.const (.int .i64 3)), []⟩,
 ⟨1, some 25, none, .move (.tmp 26), []⟩]
@[go_sem] def n_gimletref25_MayAtom_r7 : List NI := [
 ⟨0, some 27, none, .fieldAddr 1 (.tmp 1), []⟩,
 ⟨1, some 28, none, .load none (.tmp 27), []⟩,
 ⟨2, some 29, none, .bin .eql (some .int) (.tmp 28) (.const (.int .i64 0)), []⟩,
 ⟨3, some 30, none, .move (.tmp 29), []⟩,
 ⟨4, some 31, some (30, true), .fieldAddr 2 (.tmp 1), []⟩,
 ⟨5, some 32, some (30, true), .load none (.tmp 31), []⟩,
 ⟨6, some 33, some (30, true), .len .str (.tmp 32), []⟩,
 ⟨7, some 34, some (30, true), .bin .leq (some .int) (.tmp 33) (.const (.int .i64 4096)), []⟩,
 ⟨8, some 35, none, .pick (.tmp 30) (.tmp 34) (.const (.bool false)), []⟩,
 ⟨9, some 2, none, .move (.tmp 35), []⟩]
@[go_sem] def n_gimletref25_MayAtom_r8 : List NI := [
 ⟨0, some 2, none, .move (.const (.bool false)), []⟩]
@[go_sem] def n_gimletref25_MayAtom : NFn := ⟨1, 36, [.slot 2], (.seq (.region n_gimletref25_MayAtom_r0 []) (.seq (.seq (.region n_gimletref25_MayAtom_r1 []) (.block 0 (.seq (.region n_gimletref25_MayAtom_r2 []) (.cond (.tmp 5) (.seq (.region n_gimletref25_MayAtom_r3 []) .ret) (.seq (.region n_gimletref25_MayAtom_r4 []) (.cond (.tmp 15) (.seq (.region n_gimletref25_MayAtom_r5 []) .ret) (.seq (.region n_gimletref25_MayAtom_r6 []) (.cond (.tmp 25) (.seq (.region n_gimletref25_MayAtom_r7 []) .ret) .skip)))))))) (.seq (.region n_gimletref25_MayAtom_r8 []) .ret)))⟩
theorem c_gimletref25_MayAtom : compFn Try.prog F_gimletref25_MayAtom = some n_gimletref25_MayAtom := by kernel_rfl
abbrev F_gimletref25_number : Nat := 96
@[go_sem] def n_gimletref25_number_r0 : List NI := [
 ⟨0, some 2, none, .move (.const (.bool false)), []⟩]
@[go_sem] def n_gimletref25_number_r1 : List NI := [
 ⟨0, some 3, none, .move (.tmp 0), []⟩,
 ⟨1, some 4, none, .bin .geq (some .int) (.tmp 3) (.const (.int .i64 (-1073741824))), []⟩,
 ⟨2, some 5, none, .move (.tmp 4), []⟩,
 ⟨3, some 6, some (5, true), .move (.tmp 0), []⟩,
 ⟨4, some 7, some (5, true), .bin .leq (some .int) (.tmp 6) (.const (.int .i64 1073741823)), []⟩,
 ⟨5, some 8, none, .pick (.tmp 5) (.tmp 7) (.const (.bool false)), []⟩,
 ⟨6, some 2, none, .move (.tmp 8), []⟩]
@[go_sem] def n_gimletref25_number : NFn := ⟨1, 9, [.slot 2], (.seq (.region n_gimletref25_number_r0 []) (.seq (.region n_gimletref25_number_r1 []) .ret))⟩
theorem c_gimletref25_number : compFn Try.prog F_gimletref25_number = some n_gimletref25_number := by kernel_rfl
end Go.NL

set_option linter.unusedVariables false

set_option maxRecDepth 10000
namespace Go.NL
open Go.Proofs
/-- A loop with a test ahead: 'for i := 0; i < n; i++'. -/
theorem nwp_while {P : Program} {rh rn : List NI} {t id id2 : Nat} {body : NC} {Q : Post} {f : Fr} {A : Heap} (N : Nat) (I B C : Nat → Fr → Heap → Prop) (h0 : I 0 f A)
    (head : ∀ i f A, I i f A → nrun P (Here fun f A => ∃ b, f t = .bool b ∧ (b = true → i < N ∧ B i f A) ∧ (b = false → Q .normal f A)) rh f A)
    (hbody : ∀ i f A, i < N → B i f A → nwp P body (forP id id2 (C i) Q) f A)
    (hnext : ∀ i f A, i < N → C i f A → nrun P (Here (I (i + 1))) rn f A) :
    nwp P (.block id (.loop (.seq (.seq (.region rh []) (.cond (.tmp t) .skip (.exit id))) (.seq (.block id2 body) (.region rn []))))) Q f A := by
  refine nwp_block (nwp_range N I h0 ?_)
  intro i f A hI
  refine nwp_cut (fun f A => i < N ∧ B i f A) ?_ ?_
  · refine nwp_then _ (head i f A hI) ?_
    rintro f A ⟨b, hb, h1, h2⟩
    cases b
    · refine nwp_false hb ?_
      simp only [nwp, thenP, blockP, if_true]
      exact h2 rfl
    · exact nwp_true hb (h1 rfl)
  rintro f A ⟨hi, hB⟩
  refine nwp_cut (C i) ?_ ?_
  · refine nwp_block (nwp_mono _ ?_ (hbody i f A hi hB))
    intro e f' A' he
    cases e with
    | normal => exact he
    | exit k =>
      simp only [forP, blockP, thenP] at he ⊢
      by_cases hk : k = id2
      · rw [if_pos hk] at he ⊢; exact he
      · rw [if_neg hk] at he ⊢
        exact he
    | ret => exact he
  · intro f A hC
    exact nwp_last _ (hnext i f A hi hC) fun f A h => ⟨hi, h⟩
theorem lt_dec {i n : Nat} : decide ((i : Int) < (n : Int)) = decide (i < n) := by simp
theorem refVariable_spec (n : Int) : NPure Try.prog F_gimletref25_variable [.int .i64 n] (.bool (isVar n)) := by
  refine NPure.walk c_gimletref25_variable (Nat.le_of_ble_eq_true rfl) fun A => ?_
  repeat' (first | (intro b hb; try simp only [Heap.set_none, ne_eq] at hb) | (refine ifBool_cases (fun hc => ?_) (fun hc => ?_)) | (simp (config := {maxDischargeDepth := 12}) only [*, go_sem, Nat.reduceEqDiff, reduceCtorEq, ↓reduceIte, Bool.false_eq_true, eq_self]))
  all_goals (simp_all [isVar] <;> omega)
def isNum (n : Int) : Bool := decide (-1073741824 ≤ n) && decide (n ≤ 1073741823)
theorem refNumber_spec (n : Int) : NPure Try.prog F_gimletref25_number [.int .i64 n] (.bool (isNum n)) := by
  refine NPure.walk c_gimletref25_number (Nat.le_of_ble_eq_true rfl) fun A => ?_
  repeat' (first | (intro b hb; try simp only [Heap.set_none, ne_eq] at hb) | (refine ifBool_cases (fun hc => ?_) (fun hc => ?_)) | (simp (config := {maxDischargeDepth := 12}) only [*, go_sem, Nat.reduceEqDiff, Int.reduceNeg, reduceCtorEq, ↓reduceIte, Bool.false_eq_true, eq_self]))
  all_goals (simp_all [isNum] <;> omega)
theorem MayAtom_spec (a : Atom) : NPure Try.prog F_gimletref25_MayAtom [a.enc] (.bool a.ok) := by
  have h1 := refVariable_spec a.n
  have h2 := refNumber_spec a.n
  obtain ⟨k, n, s⟩ := a
  refine NPure.walk c_gimletref25_MayAtom (Nat.le_of_ble_eq_true rfl) fun A => ?_
  simp only [Atom.ok, ← isNum.eq_1]
  simp only at h1 h2
  generalize isVar n = V at h1 ⊢
  generalize hN : isNum n = Nn at h2 ⊢
  simp only [Atom.enc]
  repeat' (first | (intro b hb; try simp only [Heap.set_none, ne_eq] at hb) | (refine (h1).call ?_) | (refine (h2).call ?_) | (refine ifBool_cases (fun hc => ?_) (fun hc => ?_)) | (simp (config := {maxDischargeDepth := 12}) only [*, go_sem, Nat.reduceEqDiff, ↓reduceIte, Bool.false_eq_true, eq_self]))
  all_goals (simp_all <;> omega)
theorem refAtoms_spec (l : List Atom) (hl : l.length ≤ big) (nl : Bool) (n : Int) : NPure Try.prog F_gimletref25_Atoms [encSl nl 3 (l.map Atom.enc), .int .i64 n] (.bool (l.all Atom.ok && decide ((l.length : Int) = n))) := by
  have hbig : big = 1099511627776 := rfl
  refine NPure.walk c_gimletref25_Atoms (Nat.le_of_ble_eq_true rfl) fun A0 => ?_
  generalize hO : (l.all Atom.ok && decide ((l.length : Int) = n)) = O
  simp only [n_gimletref25_Atoms]
  refine nwp_then (fun f A => A0.le A ∧ f 0 = encSl nl 3 (l.map Atom.enc) ∧ f 1 = .int .i64 n) ?_ ?_
  · simp only [n_gimletref25_Atoms_r0, go_sem]
    exact Here.mk ⟨.refl _, rfl, rfl⟩
  rintro f A ⟨hle, h0, h1⟩
  refine nwp_cut (fun f A => l.all Atom.ok = true ∧ A0.le A ∧ f 0 = encSl nl 3 (l.map Atom.enc) ∧ f 1 = .int .i64 n) ?_ ?_
  · refine nwp_then (fun f A => A0.le A ∧ f 0 = encSl nl 3 (l.map Atom.enc) ∧ f 1 = .int .i64 n ∧ f 5 = .int .i64 0) ?_ ?_
    · simp only [n_gimletref25_Atoms_r1, go_sem]
      exact Here.mk ⟨hle, h0, h1, rfl⟩
    clear hle h0 h1
    rintro f A ⟨hle, h0, h1, h5⟩
    refine nwp_while (t := 9) (id := 0) (id2 := 1) l.length (fun i f A => i ≤ l.length ∧ (l.take i).all Atom.ok = true ∧ A0.le A ∧ f 0 = encSl nl 3 (l.map Atom.enc) ∧ f 1 = .int .i64 n ∧ f 5 = .int .i64 i)
      (fun i f A => (l.take i).all Atom.ok = true ∧ A0.le A ∧ f 0 = encSl nl 3 (l.map Atom.enc) ∧ f 1 = .int .i64 n ∧ f 5 = .int .i64 i)
      (fun i f A => (l.take (i + 1)).all Atom.ok = true ∧ A0.le A ∧ f 0 = encSl nl 3 (l.map Atom.enc) ∧ f 1 = .int .i64 n ∧ f 5 = .int .i64 i) ⟨Nat.zero_le _, rfl, hle, h0, h1, h5⟩ ?_ ?_ ?_
    · rintro i f A ⟨hi, ha, hle, h0, h1, h5⟩
      simp only [n_gimletref25_Atoms_r2, h0, h5, lenAV_encSl, List.length_map, lt_dec, go_sem, Nat.reduceEqDiff, reduceCtorEq, ↓reduceIte, eq_self]
      refine Here.mk ⟨_, rfl, fun hb => ⟨of_decide_eq_true hb, ha, hle, h0, h1, h5⟩, fun hb => ⟨?_, hle, h0, h1⟩⟩
      have := of_decide_eq_false hb
      rwa [List.take_of_length_le (by omega)] at ha
    · rintro i f A hi ⟨ha, hle, h0, h1, h5⟩
      have hix := indexAddr_encSl nl 3 (l.map Atom.enc) i l[i].enc (by rw [List.getElem?_map, List.getElem?_eq_getElem hi]; rfl)
      have hte := l[i].take_enc
      have hm := MayAtom_spec l[i]
      have hnext : (l.take (i + 1)).all Atom.ok = l[i].ok := by
        rw [List.take_add_one, List.all_append, ha, List.getElem?_eq_getElem hi]
        simp
      have hbad : l[i].ok = false → O = false := fun h => by
        have : l.all Atom.ok = false := List.all_eq_false.2 ⟨l[i], List.getElem_mem hi, by simp [h]⟩
        rw [← hO, this]
        rfl
      generalize l[i] = y at hix hte hm hnext hbad
      refine nwp_then (fun f A => (A0.le A ∧ f 0 = encSl nl 3 (l.map Atom.enc) ∧ f 1 = .int .i64 n ∧ f 5 = .int .i64 i) ∧ f 17 = .bool (!y.ok)) ?_ ?_
      · simp only [n_gimletref25_Atoms_r3, h0, h5, hix, hte, go_sem, Nat.reduceEqDiff, ↓reduceIte, eq_self]
        refine hm.call ?_
        simp only [go_sem]
        exact Here.mk ⟨⟨hle, h0, h1, h5⟩, rfl⟩
      clear hle h0 h1 h5
      rintro f A ⟨⟨hle, h0, h1, h5⟩, h17⟩
      refine nwp_test _ h17 (fun hc => ?_) fun hc => ?_
      · have := hbad (by simpa using hc)
        subst this
        simp only [n_gimletref25_Atoms_r4, hle, go_sem, ↓reduceIte, eq_self]
      · exact ⟨by rw [hnext]; simpa using hc, hle, h0, h1, h5⟩
    · rintro i f A hi ⟨ha, hle, h0, h1, h5⟩
      have hw := wrap_succ hi (by omega)
      simp only [n_gimletref25_Atoms_r5, h5, hw, go_sem, ↓reduceIte, eq_self]
      exact Here.mk ⟨hi, ha, hle, h0, h1, rfl⟩
  clear hle h0 h1
  rintro f A ⟨ha, hle, h0, h1⟩
  rw [ha, Bool.true_and] at hO
  simp only [n_gimletref25_Atoms_r7, h0, h1, lenAV_encSl, List.length_map, hO, hle, go_sem, Nat.reduceEqDiff, ↓reduceIte, eq_self]
def takes2 : List (List UInt8) := [[97, 100, 100], [115, 117, 98], [109, 117, 108], [100, 105, 118], [109, 111, 100], [101, 113], [108, 116], [108, 101], [98, 121, 116, 101], [106, 111, 105, 110], [115, 101, 116]]
def takes1 : List (List UInt8) := [[110, 101, 103], [103, 101, 116, 99], [112, 117, 116, 99], [112, 117, 116, 115], [115, 105, 122, 101], [99, 104, 114]]
def takesOf (s : List UInt8) : Int := if s ∈ takes2 then 2 else if s ∈ takes1 then 1 else if s = [99, 117, 116] then 3 else 0
theorem Takes_spec (s : List UInt8) : NPure Try.prog F_gimletref25_Takes [.str s] (.int .i64 (takesOf s)) := by
  refine NPure.walk c_gimletref25_Takes (Nat.le_of_ble_eq_true rfl) fun A0 => ?_
  generalize hO : takesOf s = O
  rw [takesOf] at hO
  simp only [n_gimletref25_Takes]
  refine nwp_then (fun f A => A0.le A ∧ f 0 = .str s) ?_ ?_
  · simp only [n_gimletref25_Takes_r0, go_sem]
    exact Here.mk ⟨.refl _, rfl⟩
  rintro f A ⟨hle, h0⟩
  refine nwp_cut (fun f A => O = 0 ∧ A0.le A) ?_ ?_
  · refine nwp_then (fun f A => A0.le A ∧ f 3 = .str s) ?_ ?_
    · simp only [n_gimletref25_Takes_r1, h0, go_sem]
      exact Here.mk ⟨hle, rfl⟩
    clear hle h0
    rintro f A ⟨hle, h3⟩
    refine nwp_block ?_
    refine nwp_cut (fun f A => (A0.le A ∧ f 3 = .str s) ∧ f 4 = .bool (decide (s ∈ takes2))) ?_ ?_
    · refine nwp_or (decide (s = [97, 100, 100])) (fun f A => A0.le A ∧ f 3 = .str s) ?_ (fun hc f A h ht => ⟨h, by rw [ht, of_decide_eq_true hc]; rfl⟩) fun hc0 f A hI => ?_
      · simp only [n_gimletref25_Takes_r2, h3, go_sem, ↓reduceIte, eq_self]
        exact Here.mk ⟨⟨hle, h3⟩, rfl⟩
      clear hle h3
      obtain ⟨hle, h3⟩ := hI
      refine nwp_or (decide (s = [115, 117, 98])) (fun f A => A0.le A ∧ f 3 = .str s) ?_ (fun hc f A h ht => ⟨h, by rw [ht, of_decide_eq_true hc]; rfl⟩) fun hc1 f A hI => ?_
      · simp only [n_gimletref25_Takes_r3, h3, go_sem, ↓reduceIte, eq_self]
        exact Here.mk ⟨⟨hle, h3⟩, rfl⟩
      clear hle h3
      obtain ⟨hle, h3⟩ := hI
      refine nwp_or (decide (s = [109, 117, 108])) (fun f A => A0.le A ∧ f 3 = .str s) ?_ (fun hc f A h ht => ⟨h, by rw [ht, of_decide_eq_true hc]; rfl⟩) fun hc2 f A hI => ?_
      · simp only [n_gimletref25_Takes_r4, h3, go_sem, ↓reduceIte, eq_self]
        exact Here.mk ⟨⟨hle, h3⟩, rfl⟩
      clear hle h3
      obtain ⟨hle, h3⟩ := hI
      refine nwp_or (decide (s = [100, 105, 118])) (fun f A => A0.le A ∧ f 3 = .str s) ?_ (fun hc f A h ht => ⟨h, by rw [ht, of_decide_eq_true hc]; rfl⟩) fun hc3 f A hI => ?_
      · simp only [n_gimletref25_Takes_r5, h3, go_sem, ↓reduceIte, eq_self]
        exact Here.mk ⟨⟨hle, h3⟩, rfl⟩
      clear hle h3
      obtain ⟨hle, h3⟩ := hI
      refine nwp_or (decide (s = [109, 111, 100])) (fun f A => A0.le A ∧ f 3 = .str s) ?_ (fun hc f A h ht => ⟨h, by rw [ht, of_decide_eq_true hc]; rfl⟩) fun hc4 f A hI => ?_
      · simp only [n_gimletref25_Takes_r6, h3, go_sem, ↓reduceIte, eq_self]
        exact Here.mk ⟨⟨hle, h3⟩, rfl⟩
      clear hle h3
      obtain ⟨hle, h3⟩ := hI
      refine nwp_or (decide (s = [101, 113])) (fun f A => A0.le A ∧ f 3 = .str s) ?_ (fun hc f A h ht => ⟨h, by rw [ht, of_decide_eq_true hc]; rfl⟩) fun hc5 f A hI => ?_
      · simp only [n_gimletref25_Takes_r7, h3, go_sem, ↓reduceIte, eq_self]
        exact Here.mk ⟨⟨hle, h3⟩, rfl⟩
      clear hle h3
      obtain ⟨hle, h3⟩ := hI
      refine nwp_or (decide (s = [108, 116])) (fun f A => A0.le A ∧ f 3 = .str s) ?_ (fun hc f A h ht => ⟨h, by rw [ht, of_decide_eq_true hc]; rfl⟩) fun hc6 f A hI => ?_
      · simp only [n_gimletref25_Takes_r8, h3, go_sem, ↓reduceIte, eq_self]
        exact Here.mk ⟨⟨hle, h3⟩, rfl⟩
      clear hle h3
      obtain ⟨hle, h3⟩ := hI
      refine nwp_or (decide (s = [108, 101])) (fun f A => A0.le A ∧ f 3 = .str s) ?_ (fun hc f A h ht => ⟨h, by rw [ht, of_decide_eq_true hc]; rfl⟩) fun hc7 f A hI => ?_
      · simp only [n_gimletref25_Takes_r9, h3, go_sem, ↓reduceIte, eq_self]
        exact Here.mk ⟨⟨hle, h3⟩, rfl⟩
      clear hle h3
      obtain ⟨hle, h3⟩ := hI
      refine nwp_or (decide (s = [98, 121, 116, 101])) (fun f A => A0.le A ∧ f 3 = .str s) ?_ (fun hc f A h ht => ⟨h, by rw [ht, of_decide_eq_true hc]; rfl⟩) fun hc8 f A hI => ?_
      · simp only [n_gimletref25_Takes_r10, h3, go_sem, ↓reduceIte, eq_self]
        exact Here.mk ⟨⟨hle, h3⟩, rfl⟩
      clear hle h3
      obtain ⟨hle, h3⟩ := hI
      refine nwp_or (decide (s = [106, 111, 105, 110])) (fun f A => A0.le A ∧ f 3 = .str s) ?_ (fun hc f A h ht => ⟨h, by rw [ht, of_decide_eq_true hc]; rfl⟩) fun hc9 f A hI => ?_
      · simp only [n_gimletref25_Takes_r11, h3, go_sem, ↓reduceIte, eq_self]
        exact Here.mk ⟨⟨hle, h3⟩, rfl⟩
      clear hle h3
      obtain ⟨hle, h3⟩ := hI
      refine nwp_last (fun f A => (A0.le A ∧ f 3 = .str s) ∧ f 4 = .bool (decide (s = [115, 101, 116]))) ?_ fun f A h => ⟨h.1, ?_⟩
      · simp only [n_gimletref25_Takes_r12, h3, go_sem, ↓reduceIte, eq_self]
        exact Here.mk ⟨⟨hle, h3⟩, rfl⟩
      · rw [h.2]
        congr 1
        have e0 := of_decide_eq_false hc0
        have e1 := of_decide_eq_false hc1
        have e2 := of_decide_eq_false hc2
        have e3 := of_decide_eq_false hc3
        have e4 := of_decide_eq_false hc4
        have e5 := of_decide_eq_false hc5
        have e6 := of_decide_eq_false hc6
        have e7 := of_decide_eq_false hc7
        have e8 := of_decide_eq_false hc8
        have e9 := of_decide_eq_false hc9
        simp only [takes2, List.mem_cons, List.not_mem_nil, or_false, e0, e1, e2, e3, e4, e5, e6, e7, e8, e9, false_or]
    clear hle h3
    rintro f A ⟨⟨hle, h3⟩, ht⟩
    refine nwp_test _ ht (fun hc => ?_) fun hc => ?_
    · rw [if_pos (of_decide_eq_true hc)] at hO
      subst hO
      simp only [n_gimletref25_Takes_r13, hle, go_sem, Int.reduceEq, ↓reduceIte, eq_self]
    rw [if_neg (of_decide_eq_false hc)] at hO
    clear hc ht
    refine nwp_cut (fun f A => (A0.le A ∧ f 3 = .str s) ∧ f 16 = .bool (decide (s ∈ takes1))) ?_ ?_
    · refine nwp_or (decide (s = [110, 101, 103])) (fun f A => A0.le A ∧ f 3 = .str s) ?_ (fun hc f A h ht => ⟨h, by rw [ht, of_decide_eq_true hc]; rfl⟩) fun hc0 f A hI => ?_
      · simp only [n_gimletref25_Takes_r14, h3, go_sem, ↓reduceIte, eq_self]
        exact Here.mk ⟨⟨hle, h3⟩, rfl⟩
      clear hle h3
      obtain ⟨hle, h3⟩ := hI
      refine nwp_or (decide (s = [103, 101, 116, 99])) (fun f A => A0.le A ∧ f 3 = .str s) ?_ (fun hc f A h ht => ⟨h, by rw [ht, of_decide_eq_true hc]; rfl⟩) fun hc1 f A hI => ?_
      · simp only [n_gimletref25_Takes_r15, h3, go_sem, ↓reduceIte, eq_self]
        exact Here.mk ⟨⟨hle, h3⟩, rfl⟩
      clear hle h3
      obtain ⟨hle, h3⟩ := hI
      refine nwp_or (decide (s = [112, 117, 116, 99])) (fun f A => A0.le A ∧ f 3 = .str s) ?_ (fun hc f A h ht => ⟨h, by rw [ht, of_decide_eq_true hc]; rfl⟩) fun hc2 f A hI => ?_
      · simp only [n_gimletref25_Takes_r16, h3, go_sem, ↓reduceIte, eq_self]
        exact Here.mk ⟨⟨hle, h3⟩, rfl⟩
      clear hle h3
      obtain ⟨hle, h3⟩ := hI
      refine nwp_or (decide (s = [112, 117, 116, 115])) (fun f A => A0.le A ∧ f 3 = .str s) ?_ (fun hc f A h ht => ⟨h, by rw [ht, of_decide_eq_true hc]; rfl⟩) fun hc3 f A hI => ?_
      · simp only [n_gimletref25_Takes_r17, h3, go_sem, ↓reduceIte, eq_self]
        exact Here.mk ⟨⟨hle, h3⟩, rfl⟩
      clear hle h3
      obtain ⟨hle, h3⟩ := hI
      refine nwp_or (decide (s = [115, 105, 122, 101])) (fun f A => A0.le A ∧ f 3 = .str s) ?_ (fun hc f A h ht => ⟨h, by rw [ht, of_decide_eq_true hc]; rfl⟩) fun hc4 f A hI => ?_
      · simp only [n_gimletref25_Takes_r18, h3, go_sem, ↓reduceIte, eq_self]
        exact Here.mk ⟨⟨hle, h3⟩, rfl⟩
      clear hle h3
      obtain ⟨hle, h3⟩ := hI
      refine nwp_last (fun f A => (A0.le A ∧ f 3 = .str s) ∧ f 16 = .bool (decide (s = [99, 104, 114]))) ?_ fun f A h => ⟨h.1, ?_⟩
      · simp only [n_gimletref25_Takes_r19, h3, go_sem, ↓reduceIte, eq_self]
        exact Here.mk ⟨⟨hle, h3⟩, rfl⟩
      · rw [h.2]
        congr 1
        have e0 := of_decide_eq_false hc0
        have e1 := of_decide_eq_false hc1
        have e2 := of_decide_eq_false hc2
        have e3 := of_decide_eq_false hc3
        have e4 := of_decide_eq_false hc4
        simp only [takes1, List.mem_cons, List.not_mem_nil, or_false, e0, e1, e2, e3, e4, false_or]
    clear hle h3
    rintro f A ⟨⟨hle, h3⟩, ht⟩
    refine nwp_test _ ht (fun hc => ?_) fun hc => ?_
    · rw [if_pos (of_decide_eq_true hc)] at hO
      subst hO
      simp only [n_gimletref25_Takes_r20, hle, go_sem, Int.reduceEq, ↓reduceIte, eq_self]
    rw [if_neg (of_decide_eq_false hc)] at hO
    clear hc ht
    refine nwp_then (fun f A => A0.le A ∧ f 23 = .bool (decide (s = [99, 117, 116]))) ?_ ?_
    · simp only [n_gimletref25_Takes_r21, h3, go_sem, ↓reduceIte, eq_self]
      exact Here.mk ⟨hle, rfl⟩
    clear hle h3
    rintro f A ⟨hle, ht⟩
    refine nwp_test _ ht (fun hc => ?_) fun hc => ?_
    · rw [if_pos (of_decide_eq_true hc)] at hO
      subst hO
      simp only [n_gimletref25_Takes_r22, hle, go_sem, Int.reduceEq, ↓reduceIte, eq_self]
    · rw [if_neg (of_decide_eq_false hc)] at hO
      exact ⟨hO.symm, hle⟩
  rintro f A ⟨rfl, hle⟩
  simp only [n_gimletref25_Takes_r23, hle, go_sem, ↓reduceIte, eq_self]
def Core.has (c : Core) (x n s t : Bool) : Bool := (x || decide (c.x = 0)) && (n || decide (c.n = 0)) && (s || decide (c.s = [])) && (t || decide (c.tags = []))
set_option maxHeartbeats 2000000 in
theorem has_spec (c : Core) (x n s t : Bool) : NPure Try.prog F_gimletref25_has [c.enc, .bool x, .bool n, .bool s, .bool t] (.bool (c.has x n s t)) := by
  refine NPure.walk c_gimletref25_has (Nat.le_of_ble_eq_true rfl) fun A => ?_
  have hone := c.one_enc
  obtain ⟨k, cx, cn, cs, na, a, nt, tg, nl, l⟩ := c
  have htl : decide (((tg.length : Nat) : Int) = 0) = decide (tg = []) := by
    cases tg <;> simp
    omega
  simp only [Core.has, Core.x, Core.n, Core.s, Core.tags]
  simp only [Core.enc, cells_agg] at hone ⊢
  simp only [n_gimletref25_has]
  refine nwp_then (fun f A' => ∃ b, A.le A' ∧ f 1 = .bool x ∧ f 2 = .bool n ∧ f 3 = .bool s ∧ f 4 = .bool t ∧ f 5 = .ptr b 0 ∧ A' b = some (.cells [.int .i64 k, .int .i64 cx, .int .i64 cn, .str cs, encSl na 3 (a.map Atom.enc), encSl nt 1 (tg.map encInt), encSl nl 7 (Core.encs l)])) ?_ ?_
  · simp only [n_gimletref25_has_r0, hone, go_sem, eq_self]
    intro b hb
    exact Here.mk ⟨b, (Heap.le.refl _).set hb, rfl, rfl, rfl, rfl, rfl, Heap.set_same _ _ _⟩
  rintro f A' ⟨b, hle, h1, h2, h3, h4, h5, hb⟩
  cases x <;> cases n <;> cases s <;> cases t
  all_goals
    simp only [n_gimletref25_has_r1, h1, h2, h3, h4, h5, hb, lenAV_encSl, List.length_map, go_sem, Nat.reduceEqDiff, ↓reduceIte, Bool.false_eq_true, eq_self]
    repeat' (refine ifBool_cases (fun hg => ?_) fun hg => ?_; all_goals simp only [hg, h2, h3, h4, h5, hb, lenAV_encSl, List.length_map, go_sem, Nat.reduceEqDiff, ↓reduceIte, Bool.false_eq_true, eq_self])
    all_goals (try simp_all)
  all_goals congr
end Go.NL
