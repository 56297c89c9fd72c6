/- THE EVALUATOR, part E: the operations, handed on. -/
import Derived.Test.YtdeboephmbaihaaGreatVD
set_option linter.unusedVariables false
set_option linter.unusedSimpArgs false
namespace Go.NL

/-! a value's shape -/
noncomputable def intV (v : AV) : (IntKind → Int → ER) → ER := AV.casesOn (motive_1 := fun _ => (IntKind → Int → ER) → ER) v (fun _ _ => none) (fun kd n k => k kd n) (fun _ _ => none) (fun _ => none) (fun _ _ _ => none) (fun _ _ _ => none) (fun _ => none)
  (fun _ _ _ _ _ _ => none) (fun _ _ _ _ => none) (fun _ => none) (fun _ _ => none) (fun _ => none) (fun _ _ _ _ => none) (fun _ => none) (fun _ _ _ => none) (fun _ _ => none) (fun _ _ => none)
theorem intV_some {v : AV} {k : IntKind → Int → ER} {r : Unit} (h : intV v k = some r) : ∃ kd n, v = .int kd n ∧ k kd n = some r := by
  cases v <;> first | (cases h; done) | exact ⟨_, _, rfl, h⟩
noncomputable def boolV (v : AV) : (Bool → ER) → ER := AV.casesOn (motive_1 := fun _ => (Bool → ER) → ER) v (fun b k => k b) (fun _ _ _ => none) (fun _ _ => none) (fun _ => none) (fun _ _ _ => none) (fun _ _ _ => none) (fun _ => none)
  (fun _ _ _ _ _ _ => none) (fun _ _ _ _ => none) (fun _ => none) (fun _ _ => none) (fun _ => none) (fun _ _ _ _ => none) (fun _ => none) (fun _ _ _ => none) (fun _ _ => none) (fun _ _ => none)
theorem boolV_some {v : AV} {k : Bool → ER} {r : Unit} (h : boolV v k = some r) : ∃ b, v = .bool b ∧ k b = some r := by
  cases v <;> first | (cases h; done) | exact ⟨_, rfl, h⟩
noncomputable def ptrV (v : AV) : (Nat → Nat → ER) → ER := AV.casesOn (motive_1 := fun _ => (Nat → Nat → ER) → ER) v (fun _ _ => none) (fun _ _ _ => none) (fun _ _ => none) (fun _ => none) (fun b o k => k b o) (fun _ _ _ => none) (fun _ => none)
  (fun _ _ _ _ _ _ => none) (fun _ _ _ _ => none) (fun _ => none) (fun _ _ => none) (fun _ => none) (fun _ _ _ _ => none) (fun _ => none) (fun _ _ _ => none) (fun _ _ => none) (fun _ _ => none)
theorem ptrV_some {v : AV} {k : Nat → Nat → ER} {r : Unit} (h : ptrV v k = some r) : ∃ b o, v = .ptr b o ∧ k b o = some r := by
  cases v <;> first | (cases h; done) | exact ⟨_, _, rfl, h⟩
noncomputable def aggV (v : AV) : (List AV → ER) → ER := AV.casesOn (motive_1 := fun _ => (List AV → ER) → ER) v (fun _ _ => none) (fun _ _ _ => none) (fun _ _ => none) (fun _ => none) (fun _ _ _ => none) (fun _ _ _ => none) (fun _ => none)
  (fun _ _ _ _ _ _ => none) (fun _ _ _ _ => none) (fun _ => none) (fun _ _ => none) (fun _ => none) (fun _ _ _ _ => none) (fun _ => none) (fun _ _ _ => none) (fun cs k => k cs) (fun _ _ => none)
theorem aggV_some {v : AV} {k : List AV → ER} {r : Unit} (h : aggV v k = some r) : ∃ cs, v = .agg cs ∧ k cs = some r := by
  cases v <;> first | (cases h; done) | exact ⟨_, rfl, h⟩
noncomputable def tupV (v : AV) : (List AV → ER) → ER := AV.casesOn (motive_1 := fun _ => (List AV → ER) → ER) v (fun _ _ => none) (fun _ _ _ => none) (fun _ _ => none) (fun _ => none) (fun _ _ _ => none) (fun _ _ _ => none) (fun _ => none)
  (fun _ _ _ _ _ _ => none) (fun _ _ _ _ => none) (fun _ => none) (fun _ _ => none) (fun _ => none) (fun _ _ _ _ => none) (fun _ => none) (fun _ _ _ => none) (fun _ _ => none) (fun cs k => k cs)
theorem tupV_some {v : AV} {k : List AV → ER} {r : Unit} (h : tupV v k = some r) : ∃ cs, v = .tuple cs ∧ k cs = some r := by
  cases v <;> first | (cases h; done) | exact ⟨_, rfl, h⟩
noncomputable def funV (v : AV) : (FuncId → List AV → List AV → ER) → ER := AV.casesOn (motive_1 := fun _ => (FuncId → List AV → List AV → ER) → ER) v (fun _ _ => none) (fun _ _ _ => none) (fun _ _ => none) (fun _ => none) (fun _ _ _ => none) (fun _ _ _ => none) (fun _ => none)
  (fun _ _ _ _ _ _ => none) (fun _ _ _ _ => none) (fun _ => none) (fun _ _ => none) (fun _ => none) (fun f a b k => k f a b) (fun _ => none) (fun _ _ _ => none) (fun _ _ => none) (fun _ _ => none)
theorem funV_some {v : AV} {k : FuncId → List AV → List AV → ER} {r : Unit} (h : funV v k = some r) : ∃ f a b, v = .func f a b ∧ k f a b = some r := by
  cases v <;> first | (cases h; done) | exact ⟨_, _, _, rfl, h⟩
/-- A map, or nil. -/
noncomputable def mapV (v : AV) : ER → (Nat → ER) → ER := AV.casesOn (motive_1 := fun _ => ER → (Nat → ER) → ER) v (fun _ _ _ => none) (fun _ _ _ _ => none) (fun _ _ _ => none) (fun _ _ => none) (fun _ _ _ _ => none) (fun _ _ _ _ => none) (fun _ _ => none)
  (fun _ _ _ _ _ _ _ => none) (fun _ _ _ _ _ => none) (fun z _ => z) (fun b _ k => k b) (fun _ _ => none) (fun _ _ _ _ _ => none) (fun _ _ => none) (fun _ _ _ _ => none) (fun _ _ _ => none) (fun _ _ _ => none)
theorem mapV_some {v : AV} {z : ER} {k : Nat → ER} {r : Unit} (h : mapV v z k = some r) : (v = .nilmap ∧ z = some r) ∨ ∃ b, v = .map b ∧ k b = some r := by
  cases v <;> first | (cases h; done) | exact .inl ⟨rfl, h⟩ | exact .inr ⟨_, rfl, h⟩
/-- A slice, or nil. -/
noncomputable def sliV (v : AV) : ER → (Nat → Nat → Nat → Nat → Cap → ER) → ER := AV.casesOn (motive_1 := fun _ => ER → (Nat → Nat → Nat → Nat → Cap → ER) → ER) v (fun _ _ _ => none) (fun _ _ _ _ => none) (fun _ _ _ => none) (fun _ _ => none) (fun _ _ _ _ => none) (fun _ _ _ _ => none) (fun z _ => z)
  (fun e b o l c _ k => k e b o l c) (fun _ _ _ _ _ => none) (fun _ _ => none) (fun _ _ _ => none) (fun _ _ => none) (fun _ _ _ _ _ => none) (fun _ _ => none) (fun _ _ _ _ => none) (fun _ _ _ => none) (fun _ _ _ => none)
theorem sliV_some {v : AV} {z : ER} {k : Nat → Nat → Nat → Nat → Cap → ER} {r : Unit} (h : sliV v z k = some r) : (v = .nilslice ∧ z = some r) ∨ ∃ e b o l c, v = .slice e b o l c ∧ k e b o l c = some r := by
  cases v <;> first | (cases h; done) | exact .inl ⟨rfl, h⟩ | exact .inr ⟨_, _, _, _, _, rfl, h⟩
/-- The cells of a value; a tuple has none. -/
noncomputable def cellsV (v : AV) : (List AV → ER) → ER := AV.casesOn (motive_1 := fun _ => (List AV → ER) → ER) v (fun b k => k [.bool b]) (fun a b k => k [.int a b]) (fun s k => k [.str s]) (fun k => k [.nilptr]) (fun b o k => k [.ptr b o]) (fun cs o k => k [.iptr cs o]) (fun k => k [.nilslice])
  (fun e b o l c k => k [.slice e b o l c]) (fun e es x k => k [.islice e es x]) (fun k => k [.nilmap]) (fun b k => k [.map b]) (fun k => k [.nilfunc]) (fun f a b k => k [.func f a b]) (fun k => k [.nilIface]) (fun t v k => k [.iface t v]) (fun cs k => k cs) (fun _ _ => none)
theorem cellsV_some {v : AV} {k : List AV → ER} {r : Unit} (h : cellsV v k = some r) : (∀ vs, v ≠ .tuple vs) ∧ k v.cells = some r := by
  cases v <;> first | exact ⟨(fun vs e => by cases e), h⟩ | (cases h; done)

noncomputable def capK (c : Cap) : (Cap → ER) → ER := Cap.rec (motive := fun _ => (Cap → ER) → ER) (fun n k => natK n fun n => k (.ge n)) (fun n k => natK n fun n => k (.eq n)) c
theorem capK_eq (c : Cap) (k : Cap → ER) : capK c k = k c := by cases c <;> exact natK_eq _ _
/-- A value, its numbers in digits. -/
noncomputable def valK (v : AV) : (AV → ER) → ER := AV.casesOn (motive_1 := fun _ => (AV → ER) → ER) v (fun b k => boolK b fun b => k (.bool b)) (fun a n k => intK n fun n => k (.int a n)) (fun s k => strK s fun s => k (.str s)) (fun k => k .nilptr) (fun b o k => natK o fun o => k (.ptr b o)) (fun cs o k => k (.iptr cs o)) (fun k => k .nilslice)
  (fun e b o l c k => natK o fun o => natK l fun l => capK c fun c => k (.slice e b o l c)) (fun e es x k => k (.islice e es x)) (fun k => k .nilmap) (fun b k => k (.map b)) (fun k => k .nilfunc) (fun f a b k => k (.func f a b)) (fun k => k .nilIface) (fun t v k => k (.iface t v)) (fun cs k => k (.agg cs)) (fun cs k => k (.tuple cs))
theorem valK_eq (v : AV) (k : AV → ER) : valK v k = k v := by
  cases v <;> first | rfl | exact boolK_eq _ _ | exact intK_eq _ _ | exact strK_eq _ _ | exact natK_eq _ _ | skip
  rename_i e b o l c
  show (natK o fun o => natK l fun l => capK c fun c => k (.slice e b o l c)) = _
  rw [natK_eq, natK_eq, capK_eq]

/-- What is told, if it is. -/
noncomputable def dfK (o : Option AV) : (AV → ER) → ER := Option.rec (motive := fun _ => (AV → ER) → ER) (fun _ => none) (fun v k => valK v k) o
/-- 'F' hands on what 'o' tells. -/
def KO (F : (AV → ER) → ER) (o : Option AV) : Prop := ∀ k r, F k = some r → ∃ v, o = some v ∧ k v = some r
theorem dfK_ko (o : Option AV) : KO (dfK o) o := by
  intro k r h
  cases o with
  | none => cases h
  | some v =>
    have h : valK v k = some r := h
    rw [valK_eq] at h
    exact ⟨v, rfl, h⟩

theorem iteK_some {b : Bool} {x : ER} {r : Unit} (h : iteK b x none = some r) : b = true ∧ x = some r := by
  cases b
  · cases h
  · exact ⟨rfl, h⟩

noncomputable def kcode (k : IntKind) : Nat := IntKind.rec (motive := fun _ => Nat) 0 1 2 3 4 5 6 7 k
theorem kcode_inj {a b : IntKind} (h : Nat.beq (kcode a) (kcode b) = true) : a = b := by
  cases a <;> cases b <;> first | rfl | (exact absurd h (by decide +kernel))

/-! numbers -/
noncomputable def addI (a : Int) : Int → Int := Int.rec (motive := fun _ => Int → Int)
  (fun m b => Int.rec (motive := fun _ => Nat → Int) (fun n m => .ofNat (Nat.add m n)) (fun n m => Int.subNatNat m (Nat.succ n)) b m) (fun m b => Int.add (.negSucc m) b) a
theorem addI_eq (a b : Int) : addI a b = a + b := by
  cases a with
  | ofNat m =>
    cases b with
    | ofNat n => rfl
    | negSucc n => rfl
  | negSucc m => rfl
noncomputable def subI (a : Int) : Int → Int := Int.rec (motive := fun _ => Int → Int)
  (fun m b => Int.rec (motive := fun _ => Nat → Int) (fun n m => Bool.rec (motive := fun _ => Int) (Int.subNatNat m n) (.ofNat (Nat.sub m n)) (Nat.ble n m)) (fun n m => .ofNat (Nat.add m (Nat.succ n))) b m) (fun m b => Int.sub (.negSucc m) b) a
theorem subI_eq (a b : Int) : subI a b = a - b := by
  cases a with
  | ofNat m =>
    cases b with
    | ofNat n =>
      show Bool.rec (motive := fun _ => Int) (Int.subNatNat m n) (.ofNat (Nat.sub m n)) (Nat.ble n m) = _
      rw [ble_cases]
      show _ = (m : Int) - (n : Int)
      split
      · exact Int.subNatNat_eq_coe
      · show ((m - n : Nat) : Int) = _
        omega
    | negSucc n =>
      show ((m + (n + 1) : Nat) : Int) = (m : Int) - Int.negSucc n
      omega
  | negSucc m => rfl
noncomputable def ltI (a : Int) : Int → Bool := Int.rec (motive := fun _ => Int → Bool)
  (fun m b => Int.rec (motive := fun _ => Nat → Bool) (fun n m => Nat.ble (Nat.succ m) n) (fun _ _ => false) b m) (fun m b => Int.rec (motive := fun _ => Nat → Bool) (fun _ _ => true) (fun n m => Nat.ble (Nat.succ n) m) b m) a
theorem ltI_eq (a b : Int) : ltI a b = decide (a < b) := by
  cases a with
  | ofNat m =>
    cases b with
    | ofNat n =>
      show Nat.ble (m + 1) n = decide ((m : Int) < (n : Int))
      rw [ble_dec, decide_eq_decide]
      omega
    | negSucc n =>
      show false = decide ((m : Int) < Int.negSucc n)
      symm
      rw [decide_eq_false_iff_not]
      omega
  | negSucc m =>
    cases b with
    | ofNat n =>
      show true = decide (Int.negSucc m < (n : Int))
      symm
      rw [decide_eq_true_eq]
      omega
    | negSucc n =>
      show Nat.ble (n + 1) m = decide (Int.negSucc m < Int.negSucc n)
      rw [ble_dec, decide_eq_decide]
      omega
noncomputable def eqI (a : Int) : Int → Bool := Int.rec (motive := fun _ => Int → Bool)
  (fun m b => Int.rec (motive := fun _ => Nat → Bool) (fun n m => Nat.beq m n) (fun _ _ => false) b m) (fun m b => Int.rec (motive := fun _ => Nat → Bool) (fun _ _ => false) (fun n m => Nat.beq n m) b m) a
theorem beq_dec (a b : Nat) : Nat.beq a b = decide (a = b) := by
  rw [Bool.eq_iff_iff]
  simp [Nat.beq_eq]
theorem eqI_eq (a b : Int) : eqI a b = decide (a = b) := by
  cases a with
  | ofNat m =>
    cases b with
    | ofNat n =>
      show Nat.beq m n = decide ((m : Int) = (n : Int))
      rw [beq_dec, decide_eq_decide]
      omega
    | negSucc n =>
      show false = decide ((m : Int) = Int.negSucc n)
      symm
      rw [decide_eq_false_iff_not]
      omega
  | negSucc m =>
    cases b with
    | ofNat n =>
      show false = decide (Int.negSucc m = (n : Int))
      symm
      rw [decide_eq_false_iff_not]
      omega
    | negSucc n =>
      show Nat.beq n m = decide (Int.negSucc m = Int.negSucc n)
      rw [beq_dec, decide_eq_decide]
      omega
noncomputable def notB (b : Bool) : Bool := Bool.rec (motive := fun _ => Bool) true false b
theorem notB_eq (b : Bool) : notB b = !b := by cases b <;> rfl

noncomputable def arithK (f : Int → Int → Int) (a b : AV) (k : AV → ER) : ER := intV a fun kd m => intV b fun kd' n => iteK (Nat.beq (kcode kd) (kcode kd')) (wrapK kd (f m n) fun s => k (.int kd s)) none
noncomputable def compK (f : Int → Int → Bool) (a b : AV) (k : AV → ER) : ER := intV a fun kd m => intV b fun kd' n => iteK (Nat.beq (kcode kd) (kcode kd')) (boolK (f m n) fun s => k (.bool s)) none

noncomputable def isInt (v : AV) : Bool := AV.casesOn (motive_1 := fun _ => Bool) v (fun _ => false) (fun _ _ => true) (fun _ => false) false (fun _ _ => false) (fun _ _ => false) false (fun _ _ _ _ _ => false) (fun _ _ _ => false) false (fun _ => false) false (fun _ _ _ => false) false (fun _ _ => false) (fun _ => false) (fun _ => false)

/-- Two operands. -/
noncomputable def binK (op : BinOp) : Option EqK → AV → AV → (AV → ER) → ER :=
  match op with
  | .add => fun ek a b k => iteK (isInt a) (arithK addI a b k) (dfK (binAV .add ek a b) k)
  | .sub => fun _ a b k => arithK subI a b k
  | .lss => fun ek a b k => iteK (isInt a) (compK ltI a b k) (dfK (binAV .lss ek a b) k)
  | .gtr => fun ek a b k => iteK (isInt a) (compK (fun x y => ltI y x) a b k) (dfK (binAV .gtr ek a b) k)
  | .leq => fun ek a b k => iteK (isInt a) (compK (fun x y => notB (ltI y x)) a b k) (dfK (binAV .leq ek a b) k)
  | .geq => fun ek a b k => iteK (isInt a) (compK (fun x y => notB (ltI x y)) a b k) (dfK (binAV .geq ek a b) k)
  | .eql => fun ek a b k => iteK (isInt a) (compK eqI a b k) (dfK (binAV .eql ek a b) k)
  | .neq => fun ek a b k => iteK (isInt a) (compK (fun x y => notB (eqI x y)) a b k) (dfK (binAV .neq ek a b) k)
  | op => fun ek a b k => dfK (binAV op ek a b) k

theorem arithK_ko {f : Int → Int → Int} {a b : AV} {o : Option AV} (h : ∀ kd m n, a = .int kd m → b = .int kd n → o = some (.int kd (kd.wrap (f m n)))) : KO (arithK f a b) o := by
  intro k r hr
  obtain ⟨kd, m, ha, h1⟩ := intV_some hr
  obtain ⟨kd', n, hb, h2⟩ := intV_some h1
  obtain ⟨hk, h3⟩ := iteK_some h2
  have := kcode_inj hk
  subst this
  rw [wrapK_eq] at h3
  exact ⟨_, h kd m n ha hb, h3⟩
theorem compK_ko {f : Int → Int → Bool} {a b : AV} {o : Option AV} (h : ∀ kd m n, a = .int kd m → b = .int kd n → o = some (.bool (f m n))) : KO (compK f a b) o := by
  intro k r hr
  obtain ⟨kd, m, ha, h1⟩ := intV_some hr
  obtain ⟨kd', n, hb, h2⟩ := intV_some h1
  obtain ⟨hk, h3⟩ := iteK_some h2
  have := kcode_inj hk
  subst this
  rw [boolK_eq] at h3
  exact ⟨_, h kd m n ha hb, h3⟩
theorem ite_ko {c : Bool} {F G : (AV → ER) → ER} {o : Option AV} (h : KO F o) (h' : KO G o) : KO (fun k => iteK c (F k) (G k)) o := by
  intro k r hr
  cases c
  · exact h' k r hr
  · exact h k r hr

theorem binK_ko (op : BinOp) (ek : Option EqK) (a b : AV) : KO (binK op ek a b) (binAV op ek a b) := by
  cases op <;> simp only [binK] <;> first
    | exact dfK_ko _
    | (refine ite_ko (arithK_ko ?_) (dfK_ko _)
       rintro kd m n rfl rfl
       rw [addI_eq]
       simp [binAV, binInt])
    | (refine arithK_ko ?_
       rintro kd m n rfl rfl
       rw [subI_eq]
       simp [binAV, binInt])
    | (refine ite_ko (compK_ko ?_) (dfK_ko _)
       rintro kd m n rfl rfl
       simp only [ltI_eq, eqI_eq, notB_eq]
       simp [binAV, binInt]
       done)
    | (refine ite_ko (compK_ko ?_) (dfK_ko _)
       rintro kd m n rfl rfl
       simp only [ltI_eq, eqI_eq, notB_eq]
       simp only [binAV, binInt, if_true, Option.some.injEq, AV.bool.injEq]
       rw [Bool.eq_iff_iff]
       simp)

/-! lists -/
noncomputable def nthK (l : List AV) : Nat → (AV → ER) → ER := List.rec (motive := fun _ => Nat → (AV → ER) → ER) (fun _ _ => none) (fun c _ ih n k => Nat.rec (motive := fun _ => ER) (k c) (fun m _ => ih m k) n) l
theorem nthK_ko (l : List AV) (n : Nat) : KO (nthK l n) l[n]? := by
  induction l generalizing n with
  | nil => intro k r h; cases h
  | cons c l ih =>
    intro k r h
    cases n with
    | zero => exact ⟨c, rfl, h⟩
    | succ n => exact ih n k r h
noncomputable def firstK (l : List AV) : Nat → (List AV → ER) → ER := List.rec (motive := fun _ => Nat → (List AV → ER) → ER) (fun n k => Nat.rec (motive := fun _ => ER) (k []) (fun _ _ => none) n) (fun c _ ih n k => Nat.rec (motive := fun _ => ER) (k []) (fun m _ => ih m fun r => k (c :: r)) n) l
theorem firstK_some {l : List AV} {n : Nat} {k : List AV → ER} {r : Unit} (h : firstK l n k = some r) : n ≤ l.length ∧ k (l.take n) = some r := by
  induction l generalizing n k with
  | nil =>
    cases n with
    | zero => exact ⟨Nat.le_refl _, h⟩
    | succ n => cases h
  | cons c l ih =>
    cases n with
    | zero => exact ⟨Nat.zero_le _, h⟩
    | succ n =>
      obtain ⟨h1, h2⟩ := ih h
      exact ⟨by simp; omega, h2⟩
noncomputable def partK (l : List AV) : Nat → Nat → (List AV → ER) → ER := List.rec (motive := fun _ => Nat → Nat → (List AV → ER) → ER) (fun off n k => Nat.rec (motive := fun _ => ER) (firstK [] n k) (fun _ _ => none) off) (fun c l ih off n k => Nat.rec (motive := fun _ => ER) (firstK (c :: l) n k) (fun m _ => ih m n k) off) l
theorem partK_some {l : List AV} {off n : Nat} {k : List AV → ER} {r : Unit} (h : partK l off n k = some r) : off + n ≤ l.length ∧ k ((l.drop off).take n) = some r := by
  induction l generalizing off k with
  | nil =>
    cases off with
    | zero =>
      have h : firstK [] n k = some r := h
      have := firstK_some h
      simpa using this
    | succ n => cases h
  | cons c l ih =>
    cases off with
    | zero =>
      have h : firstK (c :: l) n k = some r := h
      have := firstK_some h
      simpa using this
    | succ m =>
      obtain ⟨h1, h2⟩ := ih h
      exact ⟨by simp; omega, h2⟩
noncomputable def takeLK (agg : Option Nat) : List AV → Nat → (AV → ER) → ER := Option.rec (motive := fun _ => List AV → Nat → (AV → ER) → ER) (fun l off k => nthK l off k) (fun n l off k => partK l off n fun cs => k (.agg cs)) agg
theorem takeLK_ko (agg : Option Nat) (l : List AV) (off : Nat) : KO (takeLK agg l off) (takeAV agg l off) := by
  cases agg with
  | none => exact nthK_ko l off
  | some n =>
    intro k r h
    obtain ⟨h1, h2⟩ := partK_some h
    exact ⟨_, by simp [takeAV, h1], h2⟩
noncomputable def lenR (l : List AV) : Nat := List.rec (motive := fun _ => Nat) 0 (fun _ _ ih => Nat.succ ih) l
theorem lenR_eq (l : List AV) : lenR l = l.length := by
  induction l with
  | nil => rfl
  | cons c l ih => show Nat.succ (lenR l) = _; rw [ih]; rfl
noncomputable def appK (l : List AV) : List AV → (List AV → ER) → ER := List.rec (motive := fun _ => List AV → (List AV → ER) → ER) (fun m k => k m) (fun c _ ih m k => ih m fun r => k (c :: r)) l
theorem appK_eq (l m : List AV) (k : List AV → ER) : appK l m k = k (l ++ m) := by
  induction l generalizing k with
  | nil => rfl
  | cons c l ih => show (appK l m fun r => k (c :: r)) = _; rw [ih]; rfl
/-- Cells of a list are written over. -/
noncomputable def overK (l : List AV) : Nat → List AV → (List AV → ER) → ER := List.rec (motive := fun _ => Nat → List AV → (List AV → ER) → ER)
  (fun off vs k => Nat.rec (motive := fun _ => ER) (List.rec (motive := fun _ => ER) (k []) (fun _ _ _ => none) vs) (fun _ _ => none) off)
  (fun c l ih off vs k => Nat.rec (motive := fun _ => ER) (List.rec (motive := fun _ => ER) (k (c :: l)) (fun v vs _ => ih 0 vs fun r => k (v :: r)) vs) (fun m _ => ih m vs fun r => k (c :: r)) off) l
theorem overK_some {l : List AV} {off : Nat} {vs : List AV} {k : List AV → ER} {r : Unit} (h : overK l off vs k = some r) : off + vs.length ≤ l.length ∧ k (over l off vs) = some r := by
  induction l generalizing off vs k with
  | nil =>
    cases off with
    | zero =>
      cases vs with
      | nil => exact ⟨Nat.le_refl _, h⟩
      | cons v vs => cases h
    | succ n => cases h
  | cons c l ih =>
    cases off with
    | zero =>
      cases vs with
      | nil => exact ⟨Nat.zero_le _, h⟩
      | cons v vs =>
        obtain ⟨h1, h2⟩ := ih h
        refine ⟨by simp at h1 ⊢; omega, ?_⟩
        rw [← h2]
        simp [over]
    | succ m =>
      obtain ⟨h1, h2⟩ := ih h
      refine ⟨by simp at h1 ⊢; omega, ?_⟩
      rw [← h2]
      simp only [over, List.take_succ_cons, List.cons_append]
      rw [show m + 1 + vs.length = m + vs.length + 1 by omega, List.drop_succ_cons]

/-! operands -/
noncomputable def opdS (f : TA) (x : Opd) : AV := Opd.rec (motive := fun _ => AV) (fun t => f.get t) (fun v => v) x
noncomputable def opdK (x : Opd) : TA → (AV → ER) → ER := Opd.rec (motive := fun _ => TA → (AV → ER) → ER) (fun t f k => getK f t k) (fun v _ k => k v) x
theorem opdK_eq (x : Opd) (f : TA) (k : AV → ER) : opdK x f k = k (opdS f x) := by
  cases x with
  | tmp t => exact getK_eq f t k
  | const v => rfl
noncomputable def opdsK (xs : List Opd) : TA → (List AV → ER) → ER := List.rec (motive := fun _ => TA → (List AV → ER) → ER) (fun _ k => k []) (fun x _ ih f k => opdK x f fun v => ih f fun r => k (v :: r)) xs
theorem opdsK_eq (xs : List Opd) (f : TA) (k : List AV → ER) : opdsK xs f k = k (xs.map (opdS f)) := by
  induction xs generalizing k with
  | nil => rfl
  | cons x xs ih =>
    show (opdK x f fun v => opdsK xs f fun r => k (v :: r)) = _
    rw [opdK_eq, ih]
    rfl

/-- A value out of its parts. -/
noncomputable def fillK (ps : List (Nat × Nat × Opd)) : TA → List AV → (List AV → ER) → ER := List.rec (motive := fun _ => TA → List AV → (List AV → ER) → ER) (fun _ cs k => k cs)
  (fun p _ ih f cs k => opdK p.2.2 f fun v => cellsV v fun vs => iteK (Nat.beq (lenR vs) p.2.1) (overK cs p.1 vs fun cs => ih f cs k) none) ps
theorem fillK_some {f : TA} : ∀ {ps : List (Nat × Nat × Opd)} {cs : List AV} {k : List AV → ER} {r : Unit} (ho : ∀ p ∈ ps, ∃ ρ V, VR ρ (opdS f p.2.2) V), fillK ps f cs k = some r → ∃ cs', fillAV cs (ps.map fun (o, n, x) => (o, n, opdS f x)) = some cs' ∧ k cs' = some r
  | [], cs, k, r, ho, h => ⟨cs, rfl, h⟩
  | (o, n, x) :: ps, cs, k, r, ho, h => by
    have h : (opdK x f fun v => cellsV v fun vs => iteK (Nat.beq (lenR vs) n) (overK cs o vs fun cs => fillK ps f cs k) none) = some r := h
    rw [opdK_eq] at h
    obtain ⟨hnt, h⟩ := cellsV_some h
    obtain ⟨hn, h⟩ := iteK_some h
    rw [beq_dec, decide_eq_true_eq, lenR_eq] at hn
    obtain ⟨hle, h⟩ := overK_some h
    obtain ⟨cs', h1, h2⟩ := fillK_some (fun p hp => ho p (by simp [hp])) h
    refine ⟨cs', ?_, h2⟩
    obtain ⟨ρ, V, hv⟩ := ho (o, n, x) (by simp)
    simp only [List.map_cons, fillAV]
    rw [if_pos ⟨hn, by omega, cells_all_one hv hnt⟩]
    exact h1

end Go.NL
