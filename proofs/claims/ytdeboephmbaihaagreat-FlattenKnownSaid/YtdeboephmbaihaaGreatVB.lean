/- THE EVALUATOR, part B: what it is built of: trees that are written, numbers that are brought to digits, memory. -/
import Derived.Test.YtdeboephmbaihaaGreatVA
set_option linter.unusedVariables false
set_option linter.unusedSimpArgs false
namespace Go.NL

/-! trees, plainly -/
def CT.expand {α : Type} (x v : α) : Nat → Nat → Nat → Nat → CT α
  | 0, _, _, i => .node i (.rep v) (.node (Nat.succ i) (.rep x) (.rep v))
  | n + 1, lo, hi, i => if hi ≤ lo + 1 then .rep x else if i < (lo + hi) / 2 then .node ((lo + hi) / 2) (expand x v n lo ((lo + hi) / 2) i) (.rep v) else .node ((lo + hi) / 2) (.rep v) (expand x v n ((lo + hi) / 2) hi i)
def CT.set {α : Type} (i : Nat) (x : α) : CT α → Nat → Nat → CT α
  | .rep v, lo, hi => expand x v 64 lo hi i
  | .node s l r, lo, hi => if i < s then .node s (l.set i x lo s) r else .node s l (r.set i x s hi)

theorem CT.get_expand {α : Type} (x v : α) : ∀ (n lo hi i j : Nat), lo ≤ i → i < hi → lo ≤ j → j < hi → (expand x v n lo hi i).get j = if j = i then x else v
  | 0, lo, hi, i, j, h1, h2, h3, h4 => by
    simp only [expand, CT.get_node, CT.get_rep]
    by_cases h : j = i
    · subst h; simp
    · by_cases h' : j < i
      · simp [h', h]
      · simp [h', h]; omega
  | n + 1, lo, hi, i, j, h1, h2, h3, h4 => by
    simp only [expand]
    split
    · rw [CT.get_rep, if_pos (by omega)]
    · split
      · rw [CT.get_node]
        split
        · exact get_expand x v n _ _ i j h1 (by omega) h3 (by omega)
        · rw [CT.get_rep, if_neg (by omega)]
      · rw [CT.get_node]
        split
        · rw [CT.get_rep, if_neg (by omega)]
        · exact get_expand x v n _ _ i j (by omega) h2 (by omega) h4

theorem CT.get_set {α : Type} (i : Nat) (x : α) : ∀ (t : CT α) (lo hi j : Nat), lo ≤ i → i < hi → lo ≤ j → j < hi → (t.set i x lo hi).get j = if j = i then x else t.get j
  | .rep v, lo, hi, j, h1, h2, h3, h4 => by rw [CT.set, get_expand x v 64 lo hi i j h1 h2 h3 h4, CT.get_rep]
  | .node s l r, lo, hi, j, h1, h2, h3, h4 => by
    simp only [CT.set]
    split
    · rw [CT.get_node, CT.get_node]
      split
      · rw [get_set i x l lo s j h1 (by assumption) h3 (by assumption)]
      · rw [if_neg (by omega)]
    · rw [CT.get_node, CT.get_node]
      split
      · rw [if_neg (by omega)]
      · rw [get_set i x r s hi j (by omega) h2 (by omega) h4]

/-- Each place has a leaf of its own. -/
def CT.Full {α : Type} : Nat → Nat → CT α → Prop
  | lo, hi, .rep _ => hi = lo + 1
  | lo, hi, .node s l r => lo < s ∧ s < hi ∧ Full lo s l ∧ Full s hi r
def CT.put {α : Type} (i : Nat) (x : α) : CT α → CT α
  | .rep _ => .rep x
  | .node s l r => if i < s then .node s (l.put i x) r else .node s l (r.put i x)
theorem CT.put_full {α : Type} (i : Nat) (x : α) : ∀ (t : CT α) (lo hi : Nat), Full lo hi t → Full lo hi (t.put i x)
  | .rep v, lo, hi, h => h
  | .node s l r, lo, hi, h => by
    obtain ⟨h1, h2, h3, h4⟩ := h
    simp only [CT.put]
    split
    · exact ⟨h1, h2, put_full i x l _ _ h3, h4⟩
    · exact ⟨h1, h2, h3, put_full i x r _ _ h4⟩
theorem CT.put_get {α : Type} (i : Nat) (x : α) : ∀ (t : CT α) (lo hi j : Nat), Full lo hi t → lo ≤ i → i < hi → lo ≤ j → j < hi → (t.put i x).get j = if j = i then x else t.get j
  | .rep v, lo, hi, j, h, h1, h2, h3, h4 => by
    have h : hi = lo + 1 := h
    rw [CT.put, CT.get_rep, if_pos (by omega)]
  | .node s l r, lo, hi, j, h, h1, h2, h3, h4 => by
    obtain ⟨g1, g2, g3, g4⟩ := h
    simp only [CT.put]
    split
    · rw [CT.get_node, CT.get_node]
      split
      · exact put_get i x l lo s j g3 h1 (by assumption) h3 (by assumption)
      · rw [if_neg (by omega)]
    · rw [CT.get_node, CT.get_node]
      split
      · rw [if_neg (by omega)]
      · exact put_get i x r s hi j g4 (by omega) h2 (by omega) h4
def CT.full {α : Type} (v : α) : Nat → Nat → Nat → CT α
  | 0, _, _ => .rep v
  | n + 1, lo, hi => if hi ≤ lo + 1 then .rep v else .node ((lo + hi) / 2) (full v n lo ((lo + hi) / 2)) (full v n ((lo + hi) / 2) hi)
theorem CT.full_ok {α : Type} (v : α) : ∀ (n lo hi : Nat), lo < hi → hi ≤ lo + n + 1 → Full lo hi (full v n lo hi)
  | 0, lo, hi, h, h' => by simp only [full, Full]; omega
  | n + 1, lo, hi, h, h' => by
    simp only [full]
    split
    · simp only [Full]; omega
    · exact ⟨by omega, by omega, full_ok v n _ _ (by omega) (by omega), full_ok v n _ _ (by omega) (by omega)⟩
theorem CT.full_get {α : Type} (v : α) : ∀ (n lo hi j : Nat), (full v n lo hi).get j = v
  | 0, lo, hi, j => rfl
  | n + 1, lo, hi, j => by
    simp only [full]
    split
    · rfl
    · rw [CT.get_node]
      split <;> exact full_get v n _ _ j

abbrev TA := CT AV

/-- A block: how many cells, how many the tree has room for, their values; a map. -/
inductive EB where
  | gone
  | cells (n c : Nat) (t : TA)
  | map (es : List (AV × AV × Nat)) (ck : Nat)

abbrev TB := CT EB

/-- Memory: the next name, how many names the tree has room for. -/
inductive EH where
  | mk (next cap : Nat) (t : TB)

/-- Whether what follows is well. -/
abbrev ER := Option Unit

/-! the same, handed on -/
noncomputable def natK (n : Nat) : (Nat → ER) → ER := Nat.rec (motive := fun _ => (Nat → ER) → ER) (fun k => k 0) (fun m _ k => k (Nat.succ m)) n
theorem natK_eq (n : Nat) (k : Nat → ER) : natK n k = k n := by cases n <;> rfl

noncomputable def getK (t : TA) : Nat → (AV → ER) → ER := CT.rec (motive := fun _ => Nat → (AV → ER) → ER) (fun v _ k => k v) (fun s _ _ a b i k => Bool.rec (motive := fun _ => ER) (a i k) (b i k) (Nat.ble s i)) t
theorem getK_eq (t : TA) (i : Nat) (k : AV → ER) : getK t i k = k (t.get i) := by
  induction t with
  | rep v => rfl
  | node s l r ihl ihr =>
    show Bool.rec (motive := fun _ => ER) (getK l i k) (getK r i k) (Nat.ble s i) = _
    rw [ble_cases, CT.get_node, ihl, ihr]
    split <;> rfl

noncomputable def getB (t : TB) : Nat → (EB → ER) → ER := CT.rec (motive := fun _ => Nat → (EB → ER) → ER) (fun v _ k => k v) (fun s _ _ a b i k => Bool.rec (motive := fun _ => ER) (a i k) (b i k) (Nat.ble s i)) t
theorem getB_eq (t : TB) (i : Nat) (k : EB → ER) : getB t i k = k (t.get i) := by
  induction t with
  | rep v => rfl
  | node s l r ihl ihr =>
    show Bool.rec (motive := fun _ => ER) (getB l i k) (getB r i k) (Nat.ble s i) = _
    rw [ble_cases, CT.get_node, ihl, ihr]
    split <;> rfl

noncomputable def expK (n : Nat) : AV → AV → Nat → Nat → Nat → (TA → ER) → ER := Nat.rec (motive := fun _ => AV → AV → Nat → Nat → Nat → (TA → ER) → ER)
  (fun x v lo hi i k => k (.node i (.rep v) (.node (Nat.succ i) (.rep x) (.rep v))))
  (fun _ ih x v lo hi i k => Bool.rec (motive := fun _ => ER)
    (natK (Nat.div (Nat.add lo hi) 2) fun m => Bool.rec (motive := fun _ => ER) (ih x v lo m i fun t => k (.node m t (.rep v))) (ih x v m hi i fun t => k (.node m (.rep v) t)) (Nat.ble m i))
    (k (.rep x)) (Nat.ble hi (Nat.succ lo))) n
theorem expK_eq (n : Nat) (x v : AV) (lo hi i : Nat) (k : TA → ER) : expK n x v lo hi i k = k (CT.expand x v n lo hi i) := by
  induction n generalizing lo hi k with
  | zero => rfl
  | succ n ih =>
    show Bool.rec (motive := fun _ => ER)
      (natK (Nat.div (Nat.add lo hi) 2) fun m => Bool.rec (motive := fun _ => ER) (expK n x v lo m i fun t => k (.node m t (.rep v))) (expK n x v m hi i fun t => k (.node m (.rep v) t)) (Nat.ble m i))
      (k (.rep x)) (Nat.ble hi (Nat.succ lo)) = _
    rw [ble_cases, natK_eq, ble_cases, ih, ih]
    simp only [CT.expand]
    show (if lo + 1 < hi then if i < (lo + hi) / 2 then _ else _ else _) = _
    by_cases h : hi ≤ lo + 1
    · rw [if_neg (by omega), if_pos h]
    · rw [if_pos (by omega), if_neg h]
      split <;> rfl

noncomputable def expB (n : Nat) : EB → EB → Nat → Nat → Nat → (TB → ER) → ER := Nat.rec (motive := fun _ => EB → EB → Nat → Nat → Nat → (TB → ER) → ER)
  (fun x v lo hi i k => k (.node i (.rep v) (.node (Nat.succ i) (.rep x) (.rep v))))
  (fun _ ih x v lo hi i k => Bool.rec (motive := fun _ => ER)
    (natK (Nat.div (Nat.add lo hi) 2) fun m => Bool.rec (motive := fun _ => ER) (ih x v lo m i fun t => k (.node m t (.rep v))) (ih x v m hi i fun t => k (.node m (.rep v) t)) (Nat.ble m i))
    (k (.rep x)) (Nat.ble hi (Nat.succ lo))) n
theorem expB_eq (n : Nat) (x v : EB) (lo hi i : Nat) (k : TB → ER) : expB n x v lo hi i k = k (CT.expand x v n lo hi i) := by
  induction n generalizing lo hi k with
  | zero => rfl
  | succ n ih =>
    show Bool.rec (motive := fun _ => ER)
      (natK (Nat.div (Nat.add lo hi) 2) fun m => Bool.rec (motive := fun _ => ER) (expB n x v lo m i fun t => k (.node m t (.rep v))) (expB n x v m hi i fun t => k (.node m (.rep v) t)) (Nat.ble m i))
      (k (.rep x)) (Nat.ble hi (Nat.succ lo)) = _
    rw [ble_cases, natK_eq, ble_cases, ih, ih]
    simp only [CT.expand]
    show (if lo + 1 < hi then if i < (lo + hi) / 2 then _ else _ else _) = _
    by_cases h : hi ≤ lo + 1
    · rw [if_neg (by omega), if_pos h]
    · rw [if_pos (by omega), if_neg h]
      split <;> rfl

noncomputable def setK (t : TA) : Nat → AV → Nat → Nat → (TA → ER) → ER := CT.rec (motive := fun _ => Nat → AV → Nat → Nat → (TA → ER) → ER)
  (fun v i x lo hi k => expK 64 x v lo hi i k)
  (fun s l r a b i x lo hi k => Bool.rec (motive := fun _ => ER) (a i x lo s fun t => k (.node s t r)) (b i x s hi fun t => k (.node s l t)) (Nat.ble s i)) t
theorem setK_eq (t : TA) (i : Nat) (x : AV) (lo hi : Nat) (k : TA → ER) : setK t i x lo hi k = k (t.set i x lo hi) := by
  induction t generalizing lo hi k with
  | rep v => exact expK_eq 64 x v lo hi i k
  | node s l r ihl ihr =>
    show Bool.rec (motive := fun _ => ER) (setK l i x lo s fun t => k (.node s t r)) (setK r i x s hi fun t => k (.node s l t)) (Nat.ble s i) = _
    rw [ble_cases, ihl, ihr]
    simp only [CT.set]
    split <;> rfl

noncomputable def setB (t : TB) : Nat → EB → Nat → Nat → (TB → ER) → ER := CT.rec (motive := fun _ => Nat → EB → Nat → Nat → (TB → ER) → ER)
  (fun v i x lo hi k => expB 64 x v lo hi i k)
  (fun s l r a b i x lo hi k => Bool.rec (motive := fun _ => ER) (a i x lo s fun t => k (.node s t r)) (b i x s hi fun t => k (.node s l t)) (Nat.ble s i)) t
theorem setB_eq (t : TB) (i : Nat) (x : EB) (lo hi : Nat) (k : TB → ER) : setB t i x lo hi k = k (t.set i x lo hi) := by
  induction t generalizing lo hi k with
  | rep v => exact expB_eq 64 x v lo hi i k
  | node s l r ihl ihr =>
    show Bool.rec (motive := fun _ => ER) (setB l i x lo s fun t => k (.node s t r)) (setB r i x s hi fun t => k (.node s l t)) (Nat.ble s i) = _
    rw [ble_cases, ihl, ihr]
    simp only [CT.set]
    split <;> rfl

noncomputable def put1 (t : TA) : Nat → AV → (TA → ER) → ER := CT.rec (motive := fun _ => Nat → AV → (TA → ER) → ER) (fun _ _ x k => k (.rep x))
  (fun s l r a b i x k => Bool.rec (motive := fun _ => ER) (a i x fun t => k (.node s t r)) (b i x fun t => k (.node s l t)) (Nat.ble s i)) t
theorem put1_eq (t : TA) (i : Nat) (x : AV) (k : TA → ER) : put1 t i x k = k (t.put i x) := by
  induction t generalizing k with
  | rep v => rfl
  | node s l r ihl ihr =>
    show Bool.rec (motive := fun _ => ER) (put1 l i x fun t => k (.node s t r)) (put1 r i x fun t => k (.node s l t)) (Nat.ble s i) = _
    rw [ble_cases, ihl, ihr]
    simp only [CT.put]
    split <;> rfl

noncomputable def boolK (b : Bool) : (Bool → ER) → ER := Bool.rec (motive := fun _ => (Bool → ER) → ER) (fun k => k false) (fun k => k true) b
theorem boolK_eq (b : Bool) (k : Bool → ER) : boolK b k = k b := by cases b <;> rfl
noncomputable def iteK (b : Bool) (x y : ER) : ER := Bool.rec (motive := fun _ => ER) y x b
theorem iteK_eq (b : Bool) (x y : ER) : iteK b x y = if b = true then x else y := by cases b <;> rfl

/-- A number, in digits. -/
noncomputable def intK (n : Int) : (Int → ER) → ER := Int.rec (motive := fun _ => (Int → ER) → ER)
  (fun m k => Nat.rec (motive := fun _ => ER) (k (.ofNat 0)) (fun m _ => k (.ofNat (Nat.succ m))) m) (fun m k => Nat.rec (motive := fun _ => ER) (k (.negSucc 0)) (fun m _ => k (.negSucc (Nat.succ m))) m) n
theorem intK_eq (n : Int) (k : Int → ER) : intK n k = k n := by
  cases n with
  | ofNat m => cases m <;> rfl
  | negSucc m => cases m <;> rfl

/-- Bytes, in digits. -/
noncomputable def strK (s : List UInt8) : (List UInt8 → ER) → ER := List.rec (motive := fun _ => (List UInt8 → ER) → ER) (fun k => k []) (fun c _ ih k => natK c.toNat fun n => ih fun r => k (UInt8.ofNat n :: r)) s
theorem strK_eq (s : List UInt8) (k : List UInt8 → ER) : strK s k = k s := by
  induction s generalizing k with
  | nil => rfl
  | cons c s ih =>
    show (natK c.toNat fun n => strK s fun r => k (UInt8.ofNat n :: r)) = _
    rw [natK_eq, ih]
    simp

/-- How large a number of a kind may be. -/
noncomputable def topOf (k : IntKind) : Nat := IntKind.rec (motive := fun _ => Nat) 127 32767 2147483647 9223372036854775807 255 65535 4294967295 18446744073709551615 k

/-- A number, as the kind has it. -/
noncomputable def wrapK (kd : IntKind) (n : Int) : (Int → ER) → ER := Int.rec (motive := fun _ => (Int → ER) → ER)
  (fun m k => natK m fun m => Bool.rec (motive := fun _ => ER) (intK (kd.wrap (.ofNat m)) k) (k (.ofNat m)) (Nat.ble m (topOf kd)))
  (fun m k => natK m fun m => Bool.rec (motive := fun _ => ER) (intK (kd.wrap (.negSucc m)) k) (k (.negSucc m)) (and kd.signed (Nat.ble m (topOf kd)))) n

theorem wrap_small (kd : IntKind) (m : Nat) (h : m ≤ topOf kd) : kd.wrap (.ofNat m) = .ofNat m := by
  have e : (Int.ofNat m) = (m : Int) := rfl
  rw [e]
  cases kd <;> simp only [topOf, IntKind.wrap, IntKind.bits, IntKind.signed] at h ⊢ <;> simp <;> omega
theorem wrap_small_neg (kd : IntKind) (m : Nat) (hs : kd.signed = true) (h : m ≤ topOf kd) : kd.wrap (.negSucc m) = .negSucc m := by
  have e : Int.negSucc m = -(m : Int) - 1 := by omega
  rw [e]
  cases kd <;> simp only [topOf, IntKind.wrap, IntKind.bits, IntKind.signed] at h hs ⊢ <;> simp at hs ⊢ <;> omega

theorem ble_dec (a b : Nat) : Nat.ble a b = decide (a ≤ b) := by
  rw [Bool.eq_iff_iff]
  simp [Nat.ble_eq]

theorem wrapK_eq (kd : IntKind) (n : Int) (k : Int → ER) : wrapK kd n k = k (kd.wrap n) := by
  cases n with
  | ofNat m =>
    show (natK m fun m => Bool.rec (motive := fun _ => ER) (intK (kd.wrap (.ofNat m)) k) (k (.ofNat m)) (Nat.ble m (topOf kd))) = _
    rw [natK_eq, intK_eq, ble_dec]
    by_cases h : m ≤ topOf kd
    · simp only [h, decide_true]
      rw [wrap_small kd m h]
    · simp only [h, decide_false]
  | negSucc m =>
    show (natK m fun m => Bool.rec (motive := fun _ => ER) (intK (kd.wrap (.negSucc m)) k) (k (.negSucc m)) (and kd.signed (Nat.ble m (topOf kd)))) = _
    rw [natK_eq, intK_eq, ble_dec]
    by_cases h : kd.signed = true ∧ m ≤ topOf kd
    · simp only [h.1, h.2, decide_true, and]
      rw [wrap_small_neg kd m h.1 h.2]
    · have : (and kd.signed (decide (m ≤ topOf kd))) = false := by
        rw [Bool.eq_false_iff]; intro hh; simp at hh; exact h hh
      rw [this]

/-- A list of values, one behind the other. -/
noncomputable def takeK (n : Nat) : TA → Nat → (List AV → ER) → ER := Nat.rec (motive := fun _ => TA → Nat → (List AV → ER) → ER) (fun _ _ k => k []) (fun _ ih t off k => getK t off fun v => ih t (Nat.succ off) fun r => k (v :: r)) n
noncomputable def takeT (n : Nat) (t : TA) (off : Nat) : List AV := (List.range n).map fun j => t.get (off + j)
theorem takeT_succ (n : Nat) (t : TA) (off : Nat) : takeT (n + 1) t off = t.get off :: takeT n t (off + 1) := by
  simp only [takeT, List.range_succ_eq_map, List.map_cons, List.map_map, Nat.add_zero]
  congr 1
  apply List.map_congr_left
  intro j _
  simp only [Function.comp]
  congr 1
  omega
theorem takeK_eq (n : Nat) (t : TA) (off : Nat) (k : List AV → ER) : takeK n t off k = k (takeT n t off) := by
  induction n generalizing off k with
  | zero => rfl
  | succ n ih =>
    show (getK t off fun v => takeK n t (Nat.succ off) fun r => k (v :: r)) = _
    rw [getK_eq, ih, takeT_succ]

/-- Values are written one behind the other. -/
noncomputable def putK (vs : List AV) : TA → Nat → Nat → (TA → ER) → ER := List.rec (motive := fun _ => TA → Nat → Nat → (TA → ER) → ER) (fun t _ _ k => k t) (fun v _ ih t off hi k => natK off fun off => setK t off v 0 hi fun t => ih t (Nat.succ off) hi k) vs
def putT : List AV → TA → Nat → Nat → TA
  | [], t, _, _ => t
  | v :: vs, t, off, hi => putT vs (t.set off v 0 hi) (off + 1) hi
theorem putK_eq (vs : List AV) (t : TA) (off hi : Nat) (k : TA → ER) : putK vs t off hi k = k (putT vs t off hi) := by
  induction vs generalizing t off k with
  | nil => rfl
  | cons v vs ih =>
    show (natK off fun off => setK t off v 0 hi fun t => putK vs t (Nat.succ off) hi k) = _
    rw [natK_eq, setK_eq, ih]
    rfl
theorem putT_get : ∀ (vs : List AV) (t : TA) (off hi j : Nat), off + vs.length ≤ hi → j < hi → (putT vs t off hi).get j = if off ≤ j ∧ j < off + vs.length then vs.getD (j - off) .undef else t.get j
  | [], t, off, hi, j, h, hj => by simp [putT]; intro h1 h2; omega
  | v :: vs, t, off, hi, j, h, hj => by
    simp only [List.length_cons] at h
    rw [putT, putT_get vs _ (off + 1) hi j (by omega) hj]
    simp only [List.length_cons]
    by_cases h1 : off + 1 ≤ j ∧ j < off + 1 + vs.length
    · rw [if_pos h1, if_pos (by omega)]
      rw [show j - off = j - (off + 1) + 1 by omega, List.getD_cons_succ]
    · rw [if_neg h1, CT.get_set off v t 0 hi j (by omega) (by omega) (by omega) hj]
      by_cases h2 : j = off
      · subst h2
        rw [if_pos rfl, if_pos (by omega), Nat.sub_self, List.getD_cons_zero]
      · rw [if_neg h2, if_neg (by omega)]

end Go.NL
