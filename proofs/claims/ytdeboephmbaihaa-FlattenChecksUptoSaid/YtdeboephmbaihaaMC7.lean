import Derived.Test.YtdeboephmbaihaaMC6
import Derived.Test.YtdeboephmbaihaaMC3
set_option linter.unusedVariables false

namespace Go.NL
theorem vr_fun {ρ : Nm} {v V : AV} (h : VR ρ v V) : ∀ {V' : AV}, VR ρ v V' → V = V' := by
  induction h with
  | bool b => intro V' h'; cases h'; rfl
  | int k n => intro V' h'; cases h'; rfl
  | str s => intro V' h'; cases h'; rfl
  | nilptr => intro V' h'; cases h'; rfl
  | ptr i b o h =>
    intro V' h'
    cases h' with
    | ptr _ b' _ hh => rw [h] at hh; cases hh; rfl
  | nilslice => intro V' h'; cases h'; rfl
  | slice e i b o l c h =>
    intro V' h'
    cases h' with
    | slice _ _ b' _ _ _ hh => rw [h] at hh; cases hh; rfl
  | nilmap => intro V' h'; cases h'; rfl
  | map i b h =>
    intro V' h'
    cases h' with
    | map _ b' hh => rw [h] at hh; cases hh; rfl
  | nilfunc => intro V' h'; cases h'; rfl
  | func f fs fs' cs cs' hf hc h1 h2 ih1 ih2 =>
    intro V' h'
    obtain ⟨a, b, rfl, q1, q2⟩ := vr_func h'
    congr 1
    · apply List.ext_getElem
      · have := q1.len; omega
      · intro i p1 p2
        exact ih1 i (by omega) p1 (q1.get i (by omega) p2)
    · apply List.ext_getElem
      · have := q2.len; omega
      · intro i p1 p2
        exact ih2 i (by omega) p1 (q2.get i (by omega) p2)
  | nilIface => intro V' h'; cases h'; rfl
  | iface t v v' h ih =>
    intro V' h'
    cases h' with
    | iface _ _ u hu => rw [ih hu]
  | agg cs cs' hl hone h ih =>
    intro V' h'
    obtain ⟨a, rfl, q1, _⟩ := vr_agg h'
    congr 1
    apply List.ext_getElem
    · have := q1.len; omega
    · intro i p1 p2
      exact ih i (by omega) p1 (q1.get i (by omega) p2)
  | tuple cs cs' hl h ih =>
    intro V' h'
    obtain ⟨a, rfl, q1⟩ := vr_tuple h'
    congr 1
    apply List.ext_getElem
    · have := q1.len; omega
    · intro i p1 p2
      exact ih i (by omega) p1 (q1.get i (by omega) p2)
/-- Are two values the same? (Where it says no, nothing is said.) -/
def same1 : AV → AV → Bool
  | .bool a, .bool b => a == b
  | .int k a, .int k' b => decide (k = k' ∧ a = b)
  | .str a, .str b => decide (a = b)
  | .nilptr, .nilptr => true
  | .ptr a b, .ptr c d => decide (a = c ∧ b = d)
  | .nilslice, .nilslice => true
  | .slice a b c d e, .slice a' b' c' d' e' => decide (a = a' ∧ b = b' ∧ c = c' ∧ d = d' ∧ e = e')
  | .nilmap, .nilmap => true
  | .map a, .map b => decide (a = b)
  | .nilfunc, .nilfunc => true
  | .nilIface, .nilIface => true
  | .func f [] [], .func g [] [] => decide (f = g)
  | _, _ => false
def sameL : List AV → List AV → Bool
  | [], [] => true
  | a :: xs_, b :: bs => same1 a b && sameL xs_ bs
  | _, _ => false
def sameV : AV → AV → Bool
  | .agg a, .agg b => sameL a b
  | .func f [] [p], .func g [] [q] => decide (f = g) && same1 p q
  | a, b => same1 a b
theorem same1_eq {a b : AV} (h : same1 a b = true) : a = b := by
  unfold same1 at h
  split at h <;> first
    | rfl
    | (cases h; done)
    | (simp only [decide_eq_true_eq, beq_iff_eq] at h; simp [h])
theorem sameL_eq : ∀ {a b : List AV}, sameL a b = true → a = b
  | [], [], _ => rfl
  | a :: xs_, b :: bs, h => by
    simp only [sameL, Bool.and_eq_true] at h
    rw [same1_eq h.1, sameL_eq h.2]
  | [], _ :: _, h => by cases h
  | _ :: _, [], h => by cases h
theorem sameV_eq {a b : AV} (h : sameV a b = true) : a = b := by
  unfold sameV at h
  split at h
  · rw [sameL_eq h]
  · simp only [Bool.and_eq_true, decide_eq_true_eq] at h
    rw [h.1, same1_eq h.2]
  · exact same1_eq h
noncomputable def beqB (a b : Bool) : Bool := Bool.rec (motive := fun _ => Bool) (notB b) b a
theorem beqB_eq (a b : Bool) : beqB a b = decide (a = b) := by cases a <;> cases b <;> rfl
abbrev Re := Option Nat × Option (Nat × Bool) × NOp
/-- What hangs on a value. -/
noncomputable def guardK (v : AV) : Bool → ER → ER → ER := AV.casesOn (motive_1 := fun _ => Bool → ER → ER → ER) v (fun b w yes no => iteK (beqB b w) yes no) (fun _ _ _ _ _ => none) (fun _ _ _ _ => none) (fun _ _ _ => none) (fun _ _ _ _ _ => none) (fun _ _ _ _ _ => none) (fun _ _ _ => none)
  (fun _ _ _ _ _ _ _ _ => none) (fun _ _ _ _ _ _ => none) (fun _ _ _ => none) (fun _ _ _ _ => none) (fun _ _ _ => none) (fun _ _ _ _ _ _ => none) (fun _ _ _ => none) (fun _ _ _ _ _ => none) (fun _ _ _ _ => none) (fun vs _ _ no => List.rec (motive := fun _ => ER) no (fun _ _ _ => none) vs)
theorem guardK_some {v : AV} {w : Bool} {yes no : ER} {r : Unit} (h : guardK v w yes no = some r) : (gval v w = some true ∧ yes = some r) ∨ (gval v w = some false ∧ no = some r) := by
  cases v with
  | bool b =>
    have h : iteK (beqB b w) yes no = some r := h
    rw [iteK_eq, beqB_eq] at h
    by_cases hb : b = w
    · rw [if_pos (by simpa using hb)] at h
      exact .inl ⟨by simp [gval, hb], h⟩
    · rw [if_neg (by simpa using hb)] at h
      exact .inr ⟨by simp [gval, hb], h⟩
  | tuple vs =>
    cases vs with
    | nil => exact .inr ⟨rfl, h⟩
    | cons _ _ => cases h
  | _ => cases h
theorem gval_vr {ρ : Nm} {v V : AV} (h : VR ρ v V) {w c : Bool} (hg : gval v w = some c) : gval V w = some c := by
  unfold gval at hg
  split at hg
  · rw [vr_bool h]; exact hg
  · obtain ⟨us, rfl, hl⟩ := vr_tuple h
    have : us = [] := by
      have := hl.len
      cases us with
      | nil => rfl
      | cons _ _ => simp at this
    rw [this]
    exact hg
  · cases hg
noncomputable def re1 (hd : Hdl) (d : Option Nat) (op : NOp) (f : TA) (H : EH) (x : ER) : ER := iteK op.reads (opK hd op f H fun v _ => Option.rec (motive := fun _ => ER) x (fun t => getK f t fun u => iteK (sameV v u) x none) d) none
noncomputable def reK (hd : Hdl) (l : List Re) : TA → EH → ER → ER := List.rec (motive := fun _ => TA → EH → ER → ER) (fun _ _ x => x)
  (fun e _ ih f H x => Option.rec (motive := fun _ => ER) (re1 hd e.1 e.2.2 f H (ih f H x)) (fun g => getK f g.1 fun v => guardK v g.2 (re1 hd e.1 e.2.2 f H (ih f H x)) (ih f H x)) e.2.1) l
def Re.okIn (m : Nat) (e : Re) : Bool := e.2.2.okIn m && (match e.1 with | some d => decide (d < m) | none => true) && (match e.2.1 with | some g => decide (g.1 < m) | none => true)
theorem re1_sound {P : Program} {hd : Hdl} (hhd : HdlOk P hd) {ρ : Nm} {m : Nat} {f : TA} {F : Fr} {H : EH} {A : Heap} (hf : FrR ρ m f F) (hH : Fits ρ H A) {d : Option Nat} {op : NOp} (hok : op.okIn m = true) (hd' : ∀ t, d = some t → t < m) {x : ER} {r : Unit}
    (hr : re1 hd d op f H x = some r) : reOne A F d op ∧ x = some r := by
  have hq := iteK_some hr; clear hr; obtain ⟨hreads, hr⟩ := hq
  have quiet : op.quiet = true ∧ ∀ K : AV → Heap → Prop, cop P (evalOpd F) A K op = (match qop A (evalOpd F) op with | some v => K v A | none => False) := by
    cases op <;> first | (cases hreads; done) | exact ⟨rfl, fun _ => rfl⟩
  cases d with
  | none =>
    have h := opK_sound hhd hf hH hok hr (K := fun _ _ => x = some r) (fun ρ' v H' V A' _ _ _ h => h)
    rw [quiet.2] at h
    split at h
    · rename_i V hV
      exact ⟨by simp only [reOne, hV]; rfl, h⟩
    · exact h.elim
  | some t =>
    have h := opK_sound hhd hf hH hok hr (K := fun V _ => V = F t ∧ x = some r) (fun ρ' v H' V A' hle hv _ h => by
      have h : (getK f t fun u => iteK (sameV v u) x none) = some r := h
      rw [getK_eq] at h
      have hq := iteK_some h; clear h; obtain ⟨h1, h2⟩ := hq
      have := sameV_eq h1
      subst this
      exact ⟨vr_fun hv ((hf.rel t (hd' t rfl)).mono hle), h2⟩)
    rw [quiet.2] at h
    split at h
    · rename_i V hV
      exact ⟨by simp only [reOne, hV, h.1], h.2⟩
    · exact h.elim
theorem reK_sound {P : Program} {hd : Hdl} (hhd : HdlOk P hd) {ρ : Nm} {m : Nat} {f : TA} {F : Fr} {H : EH} {A : Heap} (hf : FrR ρ m f F) (hH : Fits ρ H A) : ∀ {l : List Re} (hok : l.all (Re.okIn m) = true) {x : ER} {r : Unit} (hr : reK hd l f H x = some r), reAll A F l ∧ x = some r
  | [], _, x, r, hr => ⟨trivial, hr⟩
  | (d, g, op) :: l, hok, x, r, hr => by
    simp only [List.all_cons, Bool.and_eq_true] at hok
    obtain ⟨h1, hl⟩ := hok
    simp only [Re.okIn, Bool.and_eq_true] at h1
    obtain ⟨⟨ho, hdm⟩, hg⟩ := h1
    have hdm' : ∀ t, d = some t → t < m := by
      intro t ht
      subst ht
      simpa using hdm
    cases g with
    | none =>
      have hr : re1 hd d op f H (reK hd l f H x) = some r := hr
      obtain ⟨q1, q2⟩ := re1_sound hhd hf hH ho hdm' hr
      obtain ⟨p1, p2⟩ := reK_sound hhd hf hH hl q2
      exact ⟨⟨q1, p1⟩, p2⟩
    | some g =>
      obtain ⟨s, want⟩ := g
      have hr : (getK f s fun v => guardK v want (re1 hd d op f H (reK hd l f H x)) (reK hd l f H x)) = some r := hr
      rw [getK_eq] at hr
      have hs := hf.rel s (by simpa using hg)
      have hq := guardK_some hr; clear hr; rcases hq with ⟨hb, hr⟩ | ⟨hb, hr⟩
      · obtain ⟨q1, q2⟩ := re1_sound hhd hf hH ho hdm' hr
        obtain ⟨p1, p2⟩ := reK_sound hhd hf hH hl q2
        simp only [reAll, gval_vr hs hb]
        exact ⟨⟨q1, p1⟩, p2⟩
      · obtain ⟨p1, p2⟩ := reK_sound hhd hf hH hl hr
        simp only [reAll, gval_vr hs hb]
        exact ⟨⟨trivial, p1⟩, p2⟩
noncomputable def dstK (d : Option Nat) : TA → AV → (TA → ER) → ER := Option.rec (motive := fun _ => TA → AV → (TA → ER) → ER) (fun f _ k => k f) (fun d f v k => put1 f d v k) d
noncomputable def niK (hd : Hdl) (i : NI) : TA → EH → (TA → EH → ER) → ER := NI.rec (motive := fun _ => TA → EH → (TA → EH → ER) → ER)
  (fun _ dst guard op re f H k =>
    Option.rec (motive := fun _ => ER) (opK hd op f H fun v H => dstK dst f v fun f => reK hd re f H (k f H))
      (fun g => getK f g.1 fun c => guardK c g.2 (opK hd op f H fun v H => dstK dst f v fun f => reK hd re f H (k f H)) (dstK dst f .undef fun f => reK hd re f H (k f H))) guard) i
noncomputable def runK (hd : Hdl) (is : List NI) : TA → EH → (TA → EH → ER) → ER := List.rec (motive := fun _ => TA → EH → (TA → EH → ER) → ER) (fun f H k => k f H) (fun i _ ih f H k => niK hd i f H fun f H => ih f H k) is
def NI.okIn (m : Nat) (i : NI) : Bool := i.op.okIn m && (match i.dst with | some d => decide (d < m) | none => true) && (match i.guard with | some g => decide (g.1 < m) | none => true) && i.re.all (Re.okIn m)
theorem FrR.put {ρ : Nm} {m : Nat} {f : TA} {F : Fr} (h : FrR ρ m f F) {d : Nat} (hd : d < m) {v V : AV} (hv : VR ρ v V) : FrR ρ m (f.put d v) (F.set (some d) V) :=
  ⟨CT.put_full _ _ _ _ _ h.full, fun t ht => by
    rw [CT.put_get d v f 0 (m + 1) t h.full (by omega) (by omega) (by omega) (by omega)]
    simp only [Fr.set]
    split
    · exact hv
    · exact h.rel t ht⟩
theorem dstK_sound {ρ : Nm} {m : Nat} {f : TA} {F : Fr} (h : FrR ρ m f F) {d : Option Nat} (hd : ∀ t, d = some t → t < m) {v V : AV} (hv : VR ρ v V) {k : TA → ER} {r : Unit} (hr : dstK d f v k = some r) : ∃ f', FrR ρ m f' (F.set d V) ∧ k f' = some r := by
  cases d with
  | none => exact ⟨f, h, hr⟩
  | some d =>
    have hr : put1 f d v k = some r := hr
    rw [put1_eq] at hr
    exact ⟨_, h.put (hd d rfl) hv, hr⟩
theorem runK_sound {P : Program} {hd : Hdl} (hhd : HdlOk P hd) {m : Nat} : ∀ {is : List NI} (hok : is.all (NI.okIn m) = true) {ρ : Nm} {f : TA} {F : Fr} {H : EH} {A : Heap} (hf : FrR ρ m f F) (hH : Fits ρ H A) {k : TA → EH → ER} {r : Unit} (hr : runK hd is f H k = some r) {Q : Fr → Heap → Prop}
    (hQ : ∀ ρ' f' H' F' A', ρ.le ρ' → FrR ρ' m f' F' → Fits ρ' H' A' → k f' H' = some r → Q F' A'), nrun P Q is F A
  | [], _, ρ, f, F, H, A, hf, hH, k, r, hr, Q, hQ => hQ ρ f H F A (.refl _) hf hH hr
  | i :: is, hok, ρ, f, F, H, A, hf, hH, k, r, hr, Q, hQ => by
    simp only [List.all_cons, Bool.and_eq_true] at hok
    obtain ⟨hi, his⟩ := hok
    simp only [NI.okIn, Bool.and_eq_true] at hi
    obtain ⟨⟨⟨ho, hd1⟩, hg⟩, hre⟩ := hi
    obtain ⟨at_, dst, guard, op, re⟩ := i
    simp only at ho hd1 hg hre
    have hd2 : ∀ t, dst = some t → t < m := by
      intro t ht
      subst ht
      simpa using hd1
    have rest : ∀ {ρ1 : Nm} {f1 : TA} {F1 : Fr} {H1 : EH} {A1 : Heap}, ρ.le ρ1 → FrR ρ1 m f1 F1 → Fits ρ1 H1 A1 → reK hd re f1 H1 (runK hd is f1 H1 k) = some r → reAll A1 F1 re ∧ nrun P Q is F1 A1 := by
      intro ρ1 f1 F1 H1 A1 hle hf1 hH1 hr1
      obtain ⟨q1, q2⟩ := reK_sound hhd hf1 hH1 hre hr1
      exact ⟨q1, runK_sound hhd his hf1 hH1 q2 fun ρ' f' H' F' A' p1 p2 p3 p4 => hQ ρ' f' H' F' A' (hle.trans p1) p2 p3 p4⟩
    have doit : ∀ {r}, (opK hd op f H fun v H => dstK dst f v fun f => reK hd re f H (runK hd is f H k)) = some r → r = r → True := fun _ _ => trivial
    have yes : (opK hd op f H fun v H => dstK dst f v fun f => reK hd re f H (runK hd is f H k)) = some r → cop P (evalOpd F) A (fun v A' => reAll A' (F.set dst v) re ∧ nrun P Q is (F.set dst v) A') op := by
      intro hy
      refine opK_sound hhd hf hH ho hy fun ρ' v H' V A' hle hv hH' hk => ?_
      obtain ⟨f', p1, p2⟩ := dstK_sound (hf.mono hle) hd2 hv hk
      exact rest hle p1 hH' p2
    have no : (dstK dst f .undef fun f => reK hd re f H (runK hd is f H k)) = some r → reAll A (F.set dst .undef) re ∧ nrun P Q is (F.set dst .undef) A := by
      intro hn
      obtain ⟨f', p1, p2⟩ := dstK_sound hf hd2 (vr_undef (ρ := ρ)) hn
      exact rest (.refl _) p1 hH p2
    simp only [nrun]
    cases guard with
    | none => exact yes hr
    | some g =>
      obtain ⟨s, want⟩ := g
      have hr : (getK f s fun c => guardK c want (opK hd op f H fun v H => dstK dst f v fun f => reK hd re f H (runK hd is f H k)) (dstK dst f .undef fun f => reK hd re f H (runK hd is f H k))) = some r := hr
      rw [getK_eq] at hr
      have hs := hf.rel s (by simpa using hg)
      have hq := guardK_some hr; clear hr; rcases hq with ⟨hb, hr⟩ | ⟨hb, hr⟩
      · simp only [guarded, gval_vr hs hb]
        exact yes hr
      · simp only [guarded, gval_vr hs hb]
        exact no hr
abbrev XK := Ex → TA → EH → ER
/-- Both are well. -/
noncomputable def bothK (x y : ER) : ER := Option.rec (motive := fun _ => ER) none (fun _ => y) x
theorem bothK_some {x y : ER} {r : Unit} (h : bothK x y = some r) : x = some r ∧ y = some r := by
  cases x with
  | none => cases h
  | some u => exact ⟨rfl, h⟩
/-- How often a loop may go round. -/
@[irreducible] def manyRounds : Nat := 1000000000
noncomputable def loopK (body : TA → EH → XK → ER) (K : XK) (n : Nat) : TA → EH → ER := Nat.rec (motive := fun _ => TA → EH → ER) (fun _ _ => none) (fun _ go f H => body f H fun e f H => Ex.rec (motive := fun _ => ER) (go f H) (fun id => K (.exit id) f H) (K .ret f H) e) n
noncomputable def ncK (hd : Hdl) (c : NC) : TA → EH → XK → ER := NC.rec (motive := fun _ => TA → EH → XK → ER)
  (fun f H K => K .normal f H)
  (fun is more f H K => List.rec (motive := fun _ => ER) (runK hd is f H fun f H => K .normal f H) (fun x _ ih => bothK (runK hd x f H fun f H => K .normal f H) ih) more)
  (fun _ _ iha ihb f H K => iha f H fun e f H => Ex.rec (motive := fun _ => ER) (ihb f H K) (fun id => K (.exit id) f H) (K .ret f H) e)
  (fun c _ _ iha ihb f H K => opdK c f fun v => boolV v fun b => Bool.rec (motive := fun _ => TA → EH → XK → ER) ihb iha b f H K)
  (fun id _ ih f H K => ih f H fun e f H => Ex.rec (motive := fun _ => ER) (K .normal f H) (fun id' => Bool.rec (motive := fun _ => ER) (K (.exit id') f H) (K .normal f H) (Nat.beq id' id)) (K .ret f H) e)
  (fun _ ih f H K => loopK ih K manyRounds f H)
  (fun id f H K => K (.exit id) f H)
  (fun f H K => K .ret f H) c
def NC.okIn (m : Nat) : NC → Bool
  | .skip => true
  | .region is more => is.all (NI.okIn m) && more.all fun x => x.all (NI.okIn m)
  | .seq a b => a.okIn m && b.okIn m
  | .cond c a b => c.okIn m && a.okIn m && b.okIn m
  | .block _ c => c.okIn m
  | .loop c => c.okIn m
  | .exit _ => true
  | .ret => true
theorem ncK_sound {P : Program} {hd : Hdl} (hhd : HdlOk P hd) {m : Nat} : ∀ (c : NC) (hok : c.okIn m = true) {ρ : Nm} {f : TA} {F : Fr} {H : EH} {A : Heap} (hf : FrR ρ m f F) (hH : Fits ρ H A) {K : XK} {r : Unit} (hr : ncK hd c f H K = some r) {Q : Post}
    (hQ : ∀ e ρ' f' H' F' A', ρ.le ρ' → FrR ρ' m f' F' → Fits ρ' H' A' → K e f' H' = some r → Q e F' A'), nwp P c Q F A := by
  intro c
  induction c with
  | skip => intro _ ρ f F H A hf hH K r hr Q hQ; exact hQ .normal ρ f H F A (.refl _) hf hH hr
  | region is more =>
    intro hok ρ f F H A hf hH K r hr Q hQ
    simp only [NC.okIn, Bool.and_eq_true] at hok
    obtain ⟨h1, h2⟩ := hok
    have one : ∀ x, x.all (NI.okIn m) = true → (runK hd x f H fun f H => K .normal f H) = some r → nrun P (Q .normal) x F A := fun x hx h => runK_sound hhd hx hf hH h fun ρ' f' H' F' A' p1 p2 p3 p4 => hQ .normal ρ' f' H' F' A' p1 p2 p3 p4
    have hr0 := hr
    clear hr
    have hr : List.rec (motive := fun _ => ER) (runK hd is f H fun f H => K .normal f H) (fun x _ ih => bothK (runK hd x f H fun f H => K .normal f H) ih) more = some r := hr0
    simp only [nwp]
    clear hQ hr0
    induction more with
    | nil => exact ⟨one is h1 hr, fun x hx => by cases hx⟩
    | cons x xs ih =>
      have hq := bothK_some hr; clear hr; obtain ⟨q1, q2⟩ := hq
      simp only [List.all_cons, Bool.and_eq_true] at h2
      obtain ⟨p1, p2⟩ := ih h2.2 q2
      refine ⟨p1, fun y hy => ?_⟩
      rcases List.mem_cons.1 hy with rfl | hy
      · exact one _ h2.1 q1
      · exact p2 y hy
  | seq a b iha ihb =>
    intro hok ρ f F H A hf hH K r hr Q hQ
    simp only [NC.okIn, Bool.and_eq_true] at hok
    refine iha hok.1 hf hH hr fun e ρ' f' H' F' A' p1 p2 p3 p4 => ?_
    cases e with
    | normal => exact ihb hok.2 p2 p3 p4 fun e ρ2 f2 H2 F2 A2 q1 q2 q3 q4 => hQ e ρ2 f2 H2 F2 A2 (p1.trans q1) q2 q3 q4
    | exit id => exact hQ _ ρ' f' H' F' A' p1 p2 p3 p4
    | ret => exact hQ _ ρ' f' H' F' A' p1 p2 p3 p4
  | cond c a b iha ihb =>
    intro hok ρ f F H A hf hH K r hr Q hQ
    simp only [NC.okIn, Bool.and_eq_true] at hok
    have hr : (opdK c f fun v => boolV v fun x => Bool.rec (motive := fun _ => TA → EH → XK → ER) (ncK hd b) (ncK hd a) x f H K) = some r := hr
    rw [opdK_eq] at hr
    have hq := boolV_some hr; clear hr; obtain ⟨x, hx, hr⟩ := hq
    have hc := opd_vr hf hok.1.1
    rw [hx] at hc
    have hc := vr_bool hc
    simp only [nwp, hc]
    cases x
    · exact ihb hok.2 hf hH hr hQ
    · exact iha hok.1.2 hf hH hr hQ
  | block id c ih =>
    intro hok ρ f F H A hf hH K r hr Q hQ
    refine ih hok hf hH hr fun e ρ' f' H' F' A' p1 p2 p3 p4 => ?_
    cases e with
    | normal => exact hQ .normal ρ' f' H' F' A' p1 p2 p3 p4
    | exit id' =>
      have p4 : Bool.rec (motive := fun _ => ER) (K (.exit id') f' H') (K .normal f' H') (Nat.beq id' id) = some r := p4
      rw [beq_dec] at p4
      simp only [blockP]
      by_cases hid : id' = id
      · rw [if_pos hid]
        rw [decide_eq_true hid] at p4
        exact hQ .normal ρ' f' H' F' A' p1 p2 p3 p4
      · rw [if_neg hid]
        rw [decide_eq_false hid] at p4
        exact hQ (.exit id') ρ' f' H' F' A' p1 p2 p3 p4
    | ret => exact hQ .ret ρ' f' H' F' A' p1 p2 p3 p4
  | loop c ih =>
    intro hok ρ f F H A hf hH K r hr Q hQ
    refine ⟨manyRounds, ?_⟩
    have hr : loopK (ncK hd c) K manyRounds f H = some r := hr
    generalize manyRounds = n at hr
    have key : ∀ n {ρ1 : Nm} {f1 : TA} {F1 : Fr} {H1 : EH} {A1 : Heap}, ρ.le ρ1 → FrR ρ1 m f1 F1 → Fits ρ1 H1 A1 →
        loopK (ncK hd c) K n f1 H1 = some r → nloop (nwp P c) Q n F1 A1 := by
      intro n
      induction n with
      | zero => intro ρ1 f1 F1 H1 A1 _ _ _ h; cases h
      | succ n ihn =>
        intro ρ1 f1 F1 H1 A1 hle hf1 hH1 h
        simp only [nloop]
        have h : (ncK hd c f1 H1 fun e f H => Ex.rec (motive := fun _ => ER) (loopK (ncK hd c) K n f H) (fun id => K (.exit id) f H) (K .ret f H) e) = some r := h
        refine ih hok hf1 hH1 h fun e ρ' f' H' F' A' p1 p2 p3 p4 => ?_
        cases e with
        | normal => exact ihn (hle.trans p1) p2 p3 p4
        | exit id => exact hQ _ ρ' f' H' F' A' (hle.trans p1) p2 p3 p4
        | ret => exact hQ _ ρ' f' H' F' A' (hle.trans p1) p2 p3 p4
    exact key n (.refl _) hf hH hr
  | exit id => intro _ ρ f F H A hf hH K r hr Q hQ; exact hQ (.exit id) ρ f H F A (.refl _) hf hH hr
  | ret => intro _ ρ f F H A hf hH K r hr Q hQ; exact hQ .ret ρ f H F A (.refl _) hf hH hr
noncomputable def resOneK (x : NRes) (f : TA) (H : EH) (k : AV → ER) : ER := NRes.rec (motive := fun _ => ER) (fun t => getK f t k) (fun t agg => getK f t fun v => loadK agg v H k) x
noncomputable def resAllK (l : List NRes) : TA → EH → (List AV → ER) → ER := List.rec (motive := fun _ => TA → EH → (List AV → ER) → ER) (fun _ _ k => k []) (fun x _ ih f H k => resOneK x f H fun v => ih f H fun r => k (v :: r)) l
noncomputable def resK (l : List NRes) (f : TA) (H : EH) (k : AV → EH → ER) : ER := resAllK l f H fun vs => List.rec (motive := fun _ => ER) (k (.tuple []) H) (fun v vs _ => List.rec (motive := fun _ => ER) (k v H) (fun u us _ => k (.tuple (v :: u :: us)) H) vs) vs
noncomputable def argsK (l : List AV) : TA → Nat → (TA → ER) → ER := List.rec (motive := fun _ => TA → Nat → (TA → ER) → ER) (fun f _ k => k f) (fun v _ ih f i k => put1 f i v fun f => ih f (Nat.succ i) k) l
noncomputable def fnK (hd : Hdl) (nf : NFn) : List AV → EH → (AV → EH → ER) → ER := NFn.rec (motive := fun _ => List AV → EH → (AV → EH → ER) → ER)
  (fun _ slots results body args H k => iteK (Nat.ble (lenR args) slots) (argsK args (CT.full .undef slots 0 (Nat.succ slots)) 0 fun f => ncK hd body f H fun e f H => Ex.rec (motive := fun _ => ER) (resK results f H k) (fun _ => none) (resK results f H k) e) none) nf
def NRes.okIn (m : Nat) : NRes → Bool
  | .slot t | .cell t _ => decide (t < m)
def NFn.ok (nf : NFn) : Bool := nf.body.okIn nf.slots && nf.results.all (NRes.okIn nf.slots)
theorem resAllK_sound {ρ : Nm} {m : Nat} {f : TA} {F : Fr} {H : EH} {A : Heap} (hf : FrR ρ m f F) (hH : Fits ρ H A) : ∀ {l : List NRes} (hok : l.all (NRes.okIn m) = true) {k : List AV → ER} {r : Unit} (hr : resAllK l f H k = some r), ∃ vs us, l.mapM (resOne F A) = some us ∧ VL ρ vs us ∧ k vs = some r
  | [], _, k, r, hr => ⟨[], [], rfl, .nil, hr⟩
  | x :: l, hok, k, r, hr => by
    simp only [List.all_cons, Bool.and_eq_true] at hok
    have hr : (resOneK x f H fun v => resAllK l f H fun r => k (v :: r)) = some r := hr
    have one : ∃ v V, resOne F A x = some V ∧ VR ρ v V ∧ (resAllK l f H fun r => k (v :: r)) = some r := by
      cases x with
      | slot t =>
        have hr : (getK f t fun v => resAllK l f H fun r => k (v :: r)) = some r := hr
        rw [getK_eq] at hr
        exact ⟨_, _, rfl, hf.rel t (by simpa [NRes.okIn] using hok.1), hr⟩
      | cell t agg =>
        have hr : (getK f t fun v => loadK agg v H fun v => resAllK l f H fun r => k (v :: r)) = some r := hr
        rw [getK_eq] at hr
        obtain ⟨u, U, h1, h2, h3⟩ := loadK_sound hH (hf.rel t (by simpa [NRes.okIn] using hok.1)) hr
        exact ⟨u, U, h1, h2, h3⟩
    obtain ⟨v, V, h1, h2, h3⟩ := one
    obtain ⟨vs, us, q1, q2, q3⟩ := resAllK_sound hf hH hok.2 h3
    exact ⟨v :: vs, V :: us, by simp [h1, q1], .cons h2 q2, q3⟩
theorem resK_sound {ρ : Nm} {m : Nat} {f : TA} {F : Fr} {H : EH} {A : Heap} (hf : FrR ρ m f F) (hH : Fits ρ H A) {l : List NRes} (hok : l.all (NRes.okIn m) = true) {k : AV → EH → ER} {r : Unit} (hr : resK l f H k = some r) : ∃ v V, resAV F A l = some V ∧ VR ρ v V ∧ k v H = some r := by
  obtain ⟨vs, us, h1, h2, h3⟩ := resAllK_sound hf hH hok hr
  have hlen := h2.len
  cases vs with
  | nil =>
    cases us with
    | cons u us => simp at hlen
    | nil =>
      exact ⟨.tuple [], .tuple [], by simp [resAV, h1], .tuple _ _ rfl (fun i h => by simp at h), h3⟩
  | cons a vs =>
    cases us with
    | nil => simp at hlen
    | cons b us =>
      have h0 := h2.rel 0 a b rfl rfl
      cases vs with
      | nil =>
        cases us with
        | cons c us => simp at hlen
        | nil =>
          exact ⟨a, b, by simp [resAV, h1], h0, h3⟩
      | cons c vs =>
        cases us with
        | nil => simp at hlen
        | cons d us =>
          exact ⟨_, _, by simp [resAV, h1], h2.tuple, h3⟩
theorem argsK_sound {ρ : Nm} {m : Nat} : ∀ {l l' : List AV} (_ : VL ρ l l') {pre pre' : List AV} (_ : pre.length = pre'.length) {f : TA} {i : Nat} (_ : i = pre.length) (_ : i + l.length ≤ m) (_ : CT.Full 0 (m + 1) f)
    (_ : ∀ t, t < m → VR ρ (f.get t) (fr0 pre' t)) {k : TA → ER} {r : Unit} (_ : argsK l f i k = some r), ∃ f', FrR ρ m f' (fr0 (pre' ++ l')) ∧ k f' = some r
  | [], [], _, pre, pre', hp, f, i, hi, hm, hfull, hrel, k, r, hr => ⟨f, ⟨hfull, by simpa using hrel⟩, hr⟩
  | [], b :: l', h, _, _, _, _, _, _, _, _, _, _, _, _ => by have := h.len; simp at this
  | a :: l, [], h, _, _, _, _, _, _, _, _, _, _, _, _ => by have := h.len; simp at this
  | a :: l, b :: l', h, pre, pre', hp, f, i, hi, hm, hfull, hrel, k, r, hr => by
    have hr : (put1 f i a fun f => argsK l f (Nat.succ i) k) = some r := hr
    rw [put1_eq] at hr
    simp only [List.length_cons] at hm
    have hab := h.rel 0 a b rfl rfl
    have ht : VL ρ l l' := ⟨by have := h.len; simpa using this, fun j c d hc hd => h.rel (j + 1) c d (by simpa using hc) (by simpa using hd)⟩
    obtain ⟨f', q1, q2⟩ := argsK_sound ht (pre := pre ++ [a]) (pre' := pre' ++ [b]) (by simp [hp]) (f := f.put i a) (i := i + 1) (by simp [hi]) (by omega) (CT.put_full _ _ _ _ _ hfull) (fun t htm => by
      rw [CT.put_get i a f 0 (m + 1) t hfull (by omega) (by omega) (by omega) (by omega)]
      simp only [fr0, List.getD_eq_getElem?_getD]
      by_cases hti : t = i
      · subst hti
        rw [if_pos rfl, List.getElem?_append_right (by omega), show t - pre'.length = 0 by omega]
        exact hab
      · rw [if_neg hti]
        have := hrel t htm
        simp only [fr0, List.getD_eq_getElem?_getD] at this
        by_cases hlt : t < pre'.length
        · rw [List.getElem?_append_left hlt]; exact this
        · rw [List.getElem?_append_right (by omega), List.getElem?_eq_none (by simp; omega)]
          rw [List.getElem?_eq_none (by omega)] at this
          exact this) hr
    refine ⟨f', ?_, q2⟩
    rw [List.append_assoc] at q1
    exact q1
theorem fnK_sound {P : Program} {hd : Hdl} (hhd : HdlOk P hd) {F : FuncId} {nf : NFn} (hc : compFn P F = some nf) (hok : nf.ok = true) {args : List AV} {H : EH} {k : AV → EH → ER} {r : Unit} (hr : fnK hd nf args H k = some r) {ρ : Nm} {args' : List AV} {A : Heap} {K : AV → Heap → Prop}
    (hl : VL ρ args args') (hH : Fits ρ H A) (hK : ∀ ρ' v H' v' A', ρ.le ρ' → VR ρ' v v' → Fits ρ' H' A' → k v H' = some r → K v' A') : NCalls P F args' A K := by
  obtain ⟨nargs, slots, results, body⟩ := nf
  simp only [NFn.ok, Bool.and_eq_true] at hok
  have hr : iteK (Nat.ble (lenR args) slots) (argsK args (CT.full .undef slots 0 (Nat.succ slots)) 0 fun f => ncK hd body f H fun e f H => Ex.rec (motive := fun _ => ER) (resK results f H k) (fun _ => none) (resK results f H k) e) none = some r := hr
  have hq := iteK_some hr; clear hr; obtain ⟨hle, hr⟩ := hq
  have hle := ble_le hle
  rw [lenR_eq] at hle
  have hq := argsK_sound hl (pre := []) (pre' := []) rfl rfl (by simpa using hle) (CT.full_ok _ _ _ _ (by omega) (by omega)) (fun t ht => by rw [CT.full_get]; exact vr_undef) hr; clear hr; obtain ⟨f, h1, hr⟩ := hq
  rw [List.nil_append] at h1
  refine NCalls.walk hc (by have := hl.len; simp only; omega) (ncK_sound hhd body hok.1 h1 hH hr fun e ρ' f' H2 F' A' p1 p2 p3 p4 => ?_)
  have fin : resK results f' H2 k = some r → ifSome (resAV F' A' results) fun u => K u A' := by
    intro h
    obtain ⟨v, V, q1, q2, q3⟩ := resK_sound p2 p3 hok.2 h
    exact ifSome_intro q1 (hK ρ' v H2 V A' p1 q2 p3 q3)
  cases e with
  | normal => exact fin p4
  | exit id => cases p4
  | ret => exact fin p4
/-- What is told of the calls of one function is so. -/
def SpOk (P : Program) (F : FuncId) (s : List AV → EH → (AV → EH → ER) → ER) : Prop := ∀ args H k r, s args H k = some r → ∀ (ρ : Nm) (args' : List AV) (A : Heap) (K : AV → Heap → Prop), VL ρ args args' → Fits ρ H A →
  (∀ ρ' v H' v' A', ρ.le ρ' → VR ρ' v v' → Fits ρ' H' A' → k v H' = some r → K v' A') → NCalls P F args' A K
/-- Calls, so deep. 'code' knows the functions' texts, 'sp' the answers of some. -/
noncomputable def callsK (code : FuncId → Option NFn) (sp : FuncId → Option (List AV → EH → (AV → EH → ER) → ER)) (n : Nat) : Hdl := Nat.rec (motive := fun _ => Hdl) (fun _ _ _ _ => none)
  (fun _ hd F args H k => Option.rec (motive := fun _ => ER) (Option.rec (motive := fun _ => ER) none (fun nf => fnK hd nf args H k) (code F)) (fun s => s args H k) (sp F)) n
theorem callsK_ok {P : Program} {code : FuncId → Option NFn} {sp : FuncId → Option (List AV → EH → (AV → EH → ER) → ER)} (hcode : ∀ F nf, code F = some nf → compFn P F = some nf ∧ nf.ok = true)
    (hsp : ∀ F s, sp F = some s → SpOk P F s) : ∀ n, HdlOk P (callsK code sp n) := by
  intro n
  induction n with
  | zero => intro F args H k r h; cases h
  | succ n ih =>
    intro F args H k r h
    have h : Option.rec (motive := fun _ => ER) (Option.rec (motive := fun _ => ER) none (fun nf => fnK (callsK code sp n) nf args H k) (code F)) (fun s => s args H k) (sp F) = some r := h
    cases hs : sp F with
    | some s =>
      rw [hs] at h
      exact hsp F s hs args H k r h
    | none =>
      rw [hs] at h
      cases hc : code F with
      | none => rw [hc] at h; cases h
      | some nf =>
        rw [hc] at h
        intro ρ args' A K hl hH hK
        exact fnK_sound ih (hcode F nf hc).1 (hcode F nf hc).2 h hl hH hK
/-- The functions, by their numbers: each leaf is a function's text. -/
inductive CodeOk (P : Program) : CT (Option (FuncId × NFn)) → Prop where
  | none : CodeOk P (.rep Option.none)
  | leaf {F : FuncId} {nf : NFn} (h1 : compFn P F = some nf) (h2 : nf.ok = true) : CodeOk P (.rep (some (F, nf)))
  | node {s : Nat} {l r : CT (Option (FuncId × NFn))} (h1 : CodeOk P l) (h2 : CodeOk P r) : CodeOk P (.node s l r)
noncomputable def codeOf (t : CT (Option (FuncId × NFn))) (F : FuncId) : Option NFn := Option.rec (motive := fun _ => Option NFn) none (fun p => Prod.rec (motive := fun _ => Option NFn) (fun F' nf => Bool.rec (motive := fun _ => Option NFn) none (some nf) (Nat.beq F' F)) p) (t.get F)
theorem CodeOk.get {P : Program} {t : CT (Option (FuncId × NFn))} (h : CodeOk P t) (F : FuncId) (nf : NFn) (hc : codeOf t F = some nf) : compFn P F = some nf ∧ nf.ok = true := by
  have key : ∀ F' nf', t.get F = some (F', nf') → compFn P F' = some nf' ∧ nf'.ok = true := by
    clear hc
    induction h with
    | none => intro F' nf' h; cases h
    | leaf h1 h2 => intro F' nf' h; cases h; exact ⟨h1, h2⟩
    | node h1 h2 ih1 ih2 =>
      intro F' nf' h
      rw [CT.get_node] at h
      split at h
      · exact ih1 F' nf' h
      · exact ih2 F' nf' h
  unfold codeOf at hc
  cases hg : t.get F with
  | none => rw [hg] at hc; cases hc
  | some p =>
    obtain ⟨F', nf'⟩ := p
    rw [hg] at hc
    have hc : Bool.rec (motive := fun _ => Option NFn) Option.none (some nf') (Nat.beq F' F) = some nf := hc
    rw [beq_dec] at hc
    by_cases he : F' = F
    · rw [decide_eq_true he] at hc
      cases hc
      have := key F' nf hg
      rw [he] at this
      exact this
    · rw [decide_eq_false he] at hc
      cases hc
end Go.NL

set_option linter.unusedVariables false

namespace Go.NL
open Go.Proofs
def insI (x : Int) : List Int → List Int
  | [] => [x]
  | y :: l => if x ≤ y then x :: y :: l else y :: insI x l
def sortI : List Int → List Int
  | [] => []
  | x :: l => insI x (sortI l)
theorem insI_perm (x : Int) : ∀ l, (insI x l).Perm (x :: l)
  | [] => .refl _
  | y :: l => by
    simp only [insI]
    split
    · exact .refl _
    · exact ((insI_perm x l).cons y).trans (.swap x y l)
theorem sortI_perm : ∀ l, (sortI l).Perm l
  | [] => .refl _
  | x :: l => (insI_perm x _).trans ((sortI_perm l).cons x)
theorem insI_sorted (x : Int) : ∀ l, l.Pairwise (fun a b => (decide (a ≤ b)) = true) → (insI x l).Pairwise (fun a b => (decide (a ≤ b)) = true)
  | [], _ => by simp [insI]
  | y :: l, h => by
    simp only [insI]
    rw [List.pairwise_cons] at h
    split
    · rename_i hxy
      refine List.pairwise_cons.2 ⟨fun z hz => ?_, List.pairwise_cons.2 h⟩
      rcases List.mem_cons.1 hz with rfl | hz
      · simpa using hxy
      · have := h.1 z hz
        simp only [decide_eq_true_eq] at this ⊢
        omega
    · rename_i hxy
      refine List.pairwise_cons.2 ⟨fun z hz => ?_, insI_sorted x l h.2⟩
      rcases List.mem_cons.1 ((insI_perm x l).mem_iff.1 hz) with rfl | hz
      · simp only [decide_eq_true_eq]; omega
      · exact h.1 z hz
theorem sortI_sorted : ∀ l, (sortI l).Pairwise (fun a b => (decide (a ≤ b)) = true)
  | [] => List.Pairwise.nil
  | x :: l => insI_sorted x _ (sortI_sorted l)
theorem sortI_eq (l : List Int) : l.mergeSort (fun x y => decide (x ≤ y)) = sortI l := by
  refine List.Perm.eq_of_pairwise (le := fun a b => (decide (a ≤ b)) = true) ?_ ?_ (sortI_sorted l) ((List.mergeSort_perm l _).trans (sortI_perm l).symm)
  · intro a b _ _ h1 h2
    simp only [decide_eq_true_eq] at h1 h2
    omega
  · exact List.pairwise_mergeSort (by intro a b c h1 h2; simp only [decide_eq_true_eq] at *; omega) (by intro a b; simp only [Bool.or_eq_true, decide_eq_true_eq]; omega) l
/-- Numbers, out of values. -/
noncomputable def intsK (l : List AV) : (List Int → ER) → ER := List.rec (motive := fun _ => (List Int → ER) → ER) (fun k => k []) (fun v _ ih k => intV v fun kd n => iteK (Nat.beq (kcode kd) 3) (ih fun r => k (n :: r)) none) l
theorem intsK_some {l : List AV} {k : List Int → ER} {r : Unit} (h : intsK l k = some r) : ∃ zs, l = ints zs ∧ k zs = some r := by
  induction l generalizing k with
  | nil => exact ⟨[], rfl, h⟩
  | cons v l ih =>
    replace h : (intV v fun kd n => iteK (Nat.beq (kcode kd) 3) (intsK l fun r => k (n :: r)) none) = some r := h
    have hq := intV_some h; clear h; obtain ⟨kd, n, rfl, h⟩ := hq
    have hq := iteK_some h; clear h; obtain ⟨hk, h⟩ := hq
    have : kd = .i64 := kcode_inj (b := .i64) hk
    subst this
    have hq := ih h; clear h; obtain ⟨zs, rfl, h⟩ := hq
    exact ⟨n :: zs, rfl, h⟩
theorem ints_vl {ρ : Nm} {zs : List Int} {l : List AV} (h : VL ρ (ints zs) l) : l = ints zs := by
  have hl := h.len
  apply List.ext_getElem
  · omega
  · intro i h1 h2
    have := h.get i h2 h1
    simp only [ints, List.getElem_map] at this ⊢
    exact vr_int this
theorem ints_self {ρ : Nm} (zs : List Int) : VL ρ (ints zs) (ints zs) ∧ (ints zs).all AV.one = true := by
  have : (ints zs).all AV.plain = true := by simp [ints, AV.plain]
  exact ⟨plains_vl this, plains_one this⟩
theorem over_ints {cs : List AV} {zs ws : List Int} {l : Nat} (h : cs.take l = ints zs) (hl : l ≤ cs.length) (hw : ws.length = l) : cs = ints zs ++ cs.drop l ∧ over cs 0 (ints ws) = ints ws ++ cs.drop l := by
  refine ⟨by rw [← h, List.take_append_drop], ?_⟩
  simp [over, ints, hw]
/-- A slice of numbers, from its block's head on. -/
noncomputable def intSlK (v : AV) (H : EH) (empty : ER) (k : Nat → Nat → Nat → Nat → TA → Cap → List Int → ER) : ER :=
  sliV v empty fun e i o l cap => iteK (and (Nat.beq e 1) (and (Nat.beq o 0) (and (Nat.ble 1 l) (Nat.ble l 4611686018427387903)))) (blkK H i fun b => cellsB' b fun n c t => iteK (Nat.ble l n) (takeK l t 0 fun vs => intsK vs fun zs => k i l n c t cap zs) none) none
theorem intSlK_some {v V : AV} {H : EH} {empty : ER} {k : Nat → Nat → Nat → Nat → TA → Cap → List Int → ER} {r : Unit} (h : intSlK v H empty k = some r) {ρ : Nm} {A : Heap} (hv : VR ρ v V) (hf : Fits ρ H A) :
    (V = .nilslice ∧ empty = some r) ∨ ∃ i b l n c t cap cs zs, ρ i = some b ∧ V = .slice 1 b 0 l cap ∧ (H.blk i).live = true ∧ BR ρ (.cells n c t) (.cells cs) ∧ A b = some (.cells cs) ∧ zs.length = l ∧ l < 4611686018427387904 ∧ zs ≠ [] ∧ l ≤ n ∧ cs.length = n ∧ cs.take l = ints zs ∧ k i l n c t cap zs = some r := by
  have hq := sliV_some h; clear h; rcases hq with ⟨rfl, h⟩ | ⟨e, i, o, l, cap, rfl, h⟩
  · cases hv; exact .inl ⟨rfl, h⟩
  · have hq := iteK_some h; clear h; obtain ⟨h1, h⟩ := hq
    simp only [Bool.and_eq_true, beq_dec, decide_eq_true_eq] at h1
    obtain ⟨rfl, rfl, h2, h3⟩ := h1
    have h2 := ble_le h2
    have h3 := ble_le h3
    rw [blkK_eq] at h
    have hq := cellsB'_some h; clear h; obtain ⟨n, c, t, hb, h⟩ := hq
    have hq := iteK_some h; clear h; obtain ⟨hln, h⟩ := hq
    have hln := ble_le hln
    rw [takeK_eq] at h
    have hq := intsK_some h; clear h; obtain ⟨zs, hz, h⟩ := hq
    cases hv with
    | slice _ _ b _ _ _ hρ =>
      obtain ⟨cs, q1, q2⟩ := hf.cells hρ hb
      obtain ⟨w1, w2⟩ := takeT_vl q2 (o := 0) (m := l) (by omega)
      rw [hz] at w1
      have w3 := ints_vl w1
      rw [List.drop_zero] at w3
      have hzl : zs.length = l := by
        have := takeT_length l 0 t
        rw [hz] at this
        simpa [ints] using this
      refine .inr ⟨i, b, l, n, c, t, cap, cs, zs, hρ, rfl, by rw [hb]; rfl, q2, q1, hzl, by omega, ?_, hln, q2.1, w3, h⟩
      intro e
      subst e
      simp at hzl
      omega
noncomputable def sortSK (args : List AV) (H : EH) (k : AV → EH → ER) : ER := List.rec (motive := fun _ => ER) none (fun v r _ => List.rec (motive := fun _ => ER) (intSlK v H (k (.tuple []) H) fun i l n c t cap zs => putK (ints (sortI zs)) t 0 c fun t => updK i (.cells n c t) H fun H => k (.tuple []) H) (fun _ _ _ => none) r) args
theorem sortSK_ok : SpOk Try.prog 56 sortSK := by
  intro args H k r h ρ args' A K hl hf hK
  cases args with
  | nil => cases h
  | cons a args =>
    cases args with
    | cons _ _ => cases h
    | nil =>
      have hlen := hl.len
      obtain ⟨a', rfl⟩ : ∃ a', args' = [a'] := by
        cases args' with
        | nil => simp at hlen
        | cons x xs => cases xs with
          | nil => exact ⟨x, rfl⟩
          | cons _ _ => simp at hlen
      have ha := hl.rel 0 a a' rfl rfl
      replace h : (intSlK a H (k (.tuple []) H) fun i l n c t cap zs => putK (ints (sortI zs)) t 0 c fun t => updK i (.cells n c t) H fun H => k (.tuple []) H) = some r := h
      rcases intSlK_some h ha hf with ⟨rfl, h⟩ | ⟨i, b, l, n, c, t, cap, cs, zs, hρ, rfl, hlive, hbr, hA, hzl, hlt, hz, hln, hcs, htake, h⟩
      · exact sort_nil (hK ρ _ H _ A (.refl _) (.tuple _ _ rfl (fun i h => by simp at h)) hf h)
      · rw [putK_eq, updK_eq] at h
        have hsl : (sortI zs).length = zs.length := (sortI_perm zs).length_eq
        obtain ⟨e1, e2⟩ := over_ints htake (by omega) (ws := sortI zs) (by omega)
        subst hzl
        refine sort_ints (rest := cs.drop zs.length) (by rw [hA, ← e1]) hlt hz ?_
        rw [sortI_eq, ← e2]
        have hs := ints_self (ρ := ρ) (sortI zs)
        exact hK ρ _ _ _ _ (.refl _) (.tuple _ _ rfl (fun i h => by simp at h)) (hf.upd hρ hlive (hbr.put hs.1 hs.2 (by simp [ints]; omega))) h
noncomputable def compSK (args : List AV) (H : EH) (k : AV → EH → ER) : ER := List.rec (motive := fun _ => ER) none (fun v r _ => List.rec (motive := fun _ => ER) (intSlK v H (k .nilslice H) fun i l n c t cap zs => natK (Lib.compact zs).length fun m => iteK (Nat.ble m l)
  (putK (ints (Lib.compact zs ++ List.replicate (zs.length - (Lib.compact zs).length) 0)) t 0 c fun t => updK i (.cells n c t) H fun H => k (.slice 1 i 0 m cap) H) none) (fun _ _ _ => none) r) args
theorem compSK_ok : SpOk Try.prog 57 compSK := by
  intro args H k r h ρ args' A K hl hf hK
  cases args with
  | nil => cases h
  | cons a args =>
    cases args with
    | cons _ _ => cases h
    | nil =>
      have hlen := hl.len
      obtain ⟨a', rfl⟩ : ∃ a', args' = [a'] := by
        cases args' with
        | nil => simp at hlen
        | cons x xs => cases xs with
          | nil => exact ⟨x, rfl⟩
          | cons _ _ => simp at hlen
      have ha := hl.rel 0 a a' rfl rfl
      replace h : (intSlK a H (k .nilslice H) fun i l n c t cap zs => natK (Lib.compact zs).length fun m => iteK (Nat.ble m l)
        (putK (ints (Lib.compact zs ++ List.replicate (zs.length - (Lib.compact zs).length) 0)) t 0 c fun t => updK i (.cells n c t) H fun H => k (.slice 1 i 0 m cap) H) none) = some r := h
      rcases intSlK_some h ha hf with ⟨rfl, h⟩ | ⟨i, b, l, n, c, t, cap, cs, zs, hρ, rfl, hlive, hbr, hA, hzl, hlt, hz, hln, hcs, htake, h⟩
      · exact compact_nil (hK ρ _ H _ A (.refl _) .nilslice hf h)
      · rw [natK_eq] at h
        have hq := iteK_some h; clear h; obtain ⟨hm, h⟩ := hq
        have hm := ble_le hm
        rw [putK_eq, updK_eq] at h
        subst hzl
        have hsl : (Lib.compact zs ++ List.replicate (zs.length - (Lib.compact zs).length) 0).length = zs.length := by simp; omega
        obtain ⟨e1, e2⟩ := over_ints htake (by omega) (ws := Lib.compact zs ++ List.replicate (zs.length - (Lib.compact zs).length) 0) hsl
        refine compact_ints (rest := cs.drop zs.length) (by rw [hA, ← e1]) hlt hz hm ?_
        rw [← e2]
        have hs := ints_self (ρ := ρ) (Lib.compact zs ++ List.replicate (zs.length - (Lib.compact zs).length) 0)
        exact hK ρ _ _ _ _ (.refl _) (.slice _ _ _ _ _ _ hρ) (hf.upd hρ hlive (hbr.put hs.1 hs.2 (by simp [ints]; omega))) h
/-- The keys, if they are numbers and lie as they were put in. -/
noncomputable def keysK (es : List (AV × AV × Nat)) : Nat → (List (Int × AV) → ER) → ER := List.rec (motive := fun _ => Nat → (List (Int × AV) → ER) → ER) (fun _ k => k [])
  (fun e _ ih n k => intV e.1 fun kd m => iteK (and (Nat.beq (kcode kd) 3) (Nat.beq e.2.2 n)) (ih (Nat.succ n) fun r => k ((m, e.2.1) :: r)) none) es
theorem keysK_some {ρ : Nm} : ∀ {es es' : List (AV × AV × Nat)} (_ : ER' ρ es es') {n : Nat} {k : List (Int × AV) → ER} {r : Unit} (_ : keysK es n k = some r), ∃ m m', es' = ents id m' n ∧ m.map (·.1) = m'.map (·.1) ∧ k m = some r
  | [], [], _, n, k, r, h => ⟨[], [], rfl, rfl, h⟩
  | [], _ :: _, he, _, _, _, _ => by have := he.1; simp at this
  | _ :: _, [], he, _, _, _, _ => by have := he.1; simp at this
  | (a, b, c) :: es, (a', b', c') :: es', he, n, k, r, h => by
    obtain ⟨h1, h2, h3, h4⟩ := er_tail he
    replace h : (intV a fun kd m => iteK (and (Nat.beq (kcode kd) 3) (Nat.beq c n)) (keysK es (Nat.succ n) fun r => k ((m, b) :: r)) none) = some r := h
    have hq := intV_some h; clear h; obtain ⟨kd, m, rfl, h⟩ := hq
    have hq := iteK_some h; clear h; obtain ⟨hc, h⟩ := hq
    simp only [Bool.and_eq_true] at hc
    have hkd : kd = .i64 := kcode_inj (b := .i64) hc.1
    have hcn := hc.2
    rw [beq_dec, decide_eq_true_eq] at hcn
    subst hkd
    obtain ⟨q, q', p1, p2, p3⟩ := keysK_some h4 h
    have e1 := vr_int h1
    simp only at e1 h3
    exact ⟨(m, b) :: q, (m, b') :: q', by simp only [ents, id]; rw [p1, e1, ← h3, hcn], by simp [p2], p3⟩
noncomputable def allNew : List Int → Bool
  | [] => true
  | x :: l => l.all (fun y => !eqI x y) && allNew l && decide (-9223372036854775808 ≤ x ∧ x ≤ 9223372036854775807)
theorem allNew_ok : ∀ {l : List Int}, allNew l = true → l.Nodup ∧ ∀ x ∈ l, -9223372036854775808 ≤ x ∧ x ≤ 9223372036854775807
  | [], _ => ⟨List.nodup_nil, by simp⟩
  | x :: l, h => by
    simp only [allNew, Bool.and_eq_true, decide_eq_true_eq] at h
    obtain ⟨⟨h1, h2⟩, h3⟩ := h
    obtain ⟨q1, q2⟩ := allNew_ok h2
    refine ⟨List.nodup_cons.2 ⟨fun hx => ?_, q1⟩, fun y hy => ?_⟩
    · rw [List.all_eq_true] at h1
      have := h1 x hx
      rw [eqI_eq] at this
      simp at this
    · rcases List.mem_cons.1 hy with rfl | hy
      · exact h3
      · exact q2 y hy
noncomputable def keysSK (args : List AV) (H : EH) (k : AV → EH → ER) : ER := List.rec (motive := fun _ => ER) none (fun v r _ => List.rec (motive := fun _ => ER) (funV v fun f first caps => iteK (and (Nat.beq f 64) (Nat.beq (lenR first) 0))
    (List.rec (motive := fun _ => ER) none (fun p q _ => List.rec (motive := fun _ => ER) (ptrV p fun bx o => iteK (Nat.beq o 0) (blkK H bx fun b => cellsB' b fun n _ t => iteK (Nat.beq n 1) (getK t 0 fun mv => mapV mv none fun i => blkK H i fun b => mapB' b fun es ck =>
      keysK es 0 fun m => iteK (and (allNew (m.map (·.1))) (and (Nat.beq ck m.length) (Nat.ble (Nat.mul m.length 8) 140737488355328)))
        (List.rec (motive := fun _ => ER) (k .nilslice H) (fun _ _ _ => natK m.length fun l => newK (ints (sortI (m.map (·.1)))) H fun b H => k (.slice 1 b 0 l (.ge l)) H) m) none) none) none) (fun _ _ _ => none) q) caps) none) (fun _ _ _ => none) r) args
theorem one_of_vl {ρ : Nm} {a : AV} {l : List AV} (h : VL ρ [a] l) : ∃ b, l = [b] ∧ VR ρ a b := by
  have hlen := h.len
  cases l with
  | nil => simp at hlen
  | cons x xs => cases xs with
    | nil => exact ⟨x, rfl, h.rel 0 a x rfl rfl⟩
    | cons _ _ => simp at hlen
theorem keysSK_ok : SpOk Try.prog 49 keysSK := by
  intro args H k r h ρ args' A K hl hf hK
  cases args with
  | nil => cases h
  | cons a args =>
    cases args with
    | cons _ _ => cases h
    | nil =>
      obtain ⟨a', rfl, ha⟩ := one_of_vl hl
      replace h : (funV a fun f first caps => iteK (and (Nat.beq f 64) (Nat.beq (lenR first) 0))
        (List.rec (motive := fun _ => ER) none (fun p q _ => List.rec (motive := fun _ => ER) (ptrV p fun bx o => iteK (Nat.beq o 0) (blkK H bx fun b => cellsB' b fun n _ t => iteK (Nat.beq n 1) (getK t 0 fun mv => mapV mv none fun i => blkK H i fun b => mapB' b fun es ck =>
          keysK es 0 fun m => iteK (and (allNew (m.map (·.1))) (and (Nat.beq ck m.length) (Nat.ble (Nat.mul m.length 8) 140737488355328)))
            (List.rec (motive := fun _ => ER) (k .nilslice H) (fun _ _ _ => natK m.length fun l => newK (ints (sortI (m.map (·.1)))) H fun b H => k (.slice 1 b 0 l (.ge l)) H) m) none) none) none) (fun _ _ _ => none) q) caps) none) = some r := h
      have hq := funV_some h; clear h; obtain ⟨f, first, caps, rfl, h⟩ := hq
      have hq := iteK_some h; clear h; obtain ⟨hc, h⟩ := hq
      simp only [Bool.and_eq_true, beq_dec, decide_eq_true_eq, lenR_eq] at hc
      obtain ⟨rfl, hfirst⟩ := hc
      cases first with
      | cons _ _ => simp at hfirst
      | nil =>
        cases caps with
        | nil => cases h
        | cons p q =>
          cases q with
          | cons _ _ => cases h
          | nil =>
            replace h : (ptrV p fun bx o => iteK (Nat.beq o 0) (blkK H bx fun b => cellsB' b fun n _ t => iteK (Nat.beq n 1) (getK t 0 fun mv => mapV mv none fun i => blkK H i fun b => mapB' b fun es ck =>
              keysK es 0 fun m => iteK (and (allNew (m.map (·.1))) (and (Nat.beq ck m.length) (Nat.ble (Nat.mul m.length 8) 140737488355328)))
                (List.rec (motive := fun _ => ER) (k .nilslice H) (fun _ _ _ => natK m.length fun l => newK (ints (sortI (m.map (·.1)))) H fun b H => k (.slice 1 b 0 l (.ge l)) H) m) none) none) none) = some r := h
            have hq := ptrV_some h; clear h; obtain ⟨bx, o, rfl, h⟩ := hq
            have hq := iteK_some h; clear h; obtain ⟨ho, h⟩ := hq
            rw [beq_dec, decide_eq_true_eq] at ho
            subst ho
            rw [blkK_eq] at h
            have hq := cellsB'_some h; clear h; obtain ⟨n, c, t, hb, h⟩ := hq
            have hq := iteK_some h; clear h; obtain ⟨hn, h⟩ := hq
            rw [beq_dec, decide_eq_true_eq] at hn
            subst hn
            rw [getK_eq] at h
            have hq := mapV_some h; clear h; rcases hq with ⟨_, h⟩ | ⟨i, hi, h⟩
            · cases h
            rw [blkK_eq] at h
            have hq := mapB'_some h; clear h; obtain ⟨es, ck, he, h⟩ := hq
            obtain ⟨first', caps', rfl, hl1, hl2⟩ := vr_func ha
            obtain ⟨p', rfl, hp⟩ := one_of_vl hl2
            have hfirst' : first' = [] := by
              have := hl1.len
              cases first' with
              | nil => rfl
              | cons _ _ => simp at this
            subst hfirst'
            cases hp with
            | ptr _ bx' _ hρ =>
              obtain ⟨cs, g1, g2⟩ := hf.cells hρ hb
              obtain ⟨w, hw1, hw2⟩ := (g2.2.2 0 (by omega)).2
              rw [hi] at hw2
              cases hw2 with
              | map _ mb hmρ =>
                obtain ⟨es', k1, k2⟩ := hf.map hmρ he
                have hq := keysK_some (show ER' ρ es es' from k2.2) h; clear h; obtain ⟨m, m', r1, r2, h⟩ := hq
                have hq := iteK_some h; clear h; obtain ⟨hcond, h⟩ := hq
                simp only [Bool.and_eq_true, beq_dec, decide_eq_true_eq] at hcond
                obtain ⟨c1, c2, c3⟩ := hcond
                have c3 := ble_le c3
                have hlen : m.length = m'.length := by
                  have := congrArg List.length r2
                  simpa using this
                obtain ⟨d1, d2⟩ := allNew_ok c1
                have hcs : cs = [.map mb] := by
                  have := g2.1
                  cases cs with
                  | nil => simp at this
                  | cons x xs =>
                    cases xs with
                    | nil => simp at hw1; rw [hw1]
                    | cons _ _ => simp at this
                subst hcs
                refine sorted_keys id m' ⟨by rw [← r2]; exact d1, fun p hp => d2 p.1 (by rw [r2]; exact List.mem_map.2 ⟨p, hp, rfl⟩)⟩ (by change m.length * 8 ≤ 140737488355328 at c3; omega) g1 (by rw [k1, r1, c2, hlen]; rfl) ?_ ?_
                · intro hm
                  subst hm
                  have hm0 : m = [] := by
                    cases m with
                    | nil => rfl
                    | cons _ _ => simp at hlen
                  subst hm0
                  exact hK ρ _ H _ A (.refl _) .nilslice hf h
                · intro hm b hb'
                  cases m with
                  | nil =>
                    cases m' with
                    | nil => exact absurd rfl hm
                    | cons _ _ => simp at hlen
                  | cons x xs =>
                    replace h : (natK (x :: xs).length fun l => newK (ints (sortI ((x :: xs).map (·.1)))) H fun b H => k (AV.slice 1 b 0 l (.ge l)) H) = some r := h
                    rw [natK_eq, newK_eq] at h
                    rw [← r2, sortI_eq, ← hlen]
                    have hs := ints_self (ρ := ρ) (sortI ((x :: xs).map (·.1)))
                    exact hK _ _ _ _ _ (hf.le_with b) (.slice _ _ _ _ _ _ (Nm.with_same _ _ _)) (new_sound hf hs.1 hs.2 hb') h
end Go.NL
