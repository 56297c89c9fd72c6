/- THE N-LOGIC, part C: operations that leave memory alone do in the world what 'qop' says. -/
import Derived.Test.YtdeboephmbaihaaGreatNB
import Derived.Laws.BytesString
set_option linter.unusedVariables false
set_option linter.unusedSimpArgs false
namespace Go.NL

/-- The operands stand alike. -/
def Ops (g : G) (σ : Opd → AV) (ρ : Operand → Value) : Prop := ∀ x y, compOpd x = some y → Rel g (σ y) (ρ x)

def Yields (P : Program) (g : G) (w : World) (o : Oper) (ρ : Operand → Value) (v : AV) : Prop := ∃ V, (execOp ρ o).run P w = .ok (.value V) w ∧ Rel g v V

theorem ops_list {g : G} {σ : Opd → AV} {ρ : Operand → Value} (h : Ops g σ ρ) : ∀ {xs : List Operand} {ys : List Opd}, xs.mapM compOpd = some ys → RelL g (ys.map σ) (xs.map ρ).toArray
  | [], ys, hx => by simp at hx; subst hx; exact .nil
  | x :: xs, ys, hx => by
    simp only [List.mapM_cons, Option.bind_eq_bind, Option.bind_eq_some_iff, Option.pure_def, Option.some.injEq] at hx
    obtain ⟨y, hy, zs, hz, rfl⟩ := hx
    exact .cons (h x y hy) (ops_list h hz)

theorem ops_arr {g : G} {σ : Opd → AV} {ρ : Operand → Value} (h : Ops g σ ρ) {xs : Array Operand} {ys : List Opd} (hx : compOpds xs = some ys) : RelL g (ys.map σ) (xs.map ρ) := by
  have := ops_list h hx
  have e : xs.map ρ = (xs.toList.map ρ).toArray := by apply Array.ext'; simp
  rw [e]
  exact this

/-! the inversions -/
theorem rel_bool {g : G} {b : Bool} {V : Value} (h : Rel g (.bool b) V) : V = .bool b := by cases h; rfl
theorem rel_int {g : G} {k : IntKind} {n : Int} {V : Value} (h : Rel g (.int k n) V) : V = .int k n := by cases h; rfl
theorem rel_str {g : G} {s : List UInt8} {V : Value} (h : Rel g (.str s) V) : ∃ b : ByteArray, V = .string b ∧ b.data.toList = s := by cases h with | str b => exact ⟨b, rfl, rfl⟩
theorem rel_str_mk {g : G} (s : ByteArray) (l : List UInt8) (h : s.data.toList = l) : Rel g (.str l) (.string s) := h ▸ .str s

theorem drop_take_get {α : Type} (l : List α) (a n j : Nat) (h : j < n) : ((l.drop a).take n)[j]? = l[a + j]? := by
  rw [List.getElem?_take, if_pos h, List.getElem?_drop]

/-! load -/

theorem aggOf_some {P : Program} {t : TypeId} {n : Nat} (h : aggOf P t = some (some n)) : (∃ i, P.info? t = some i ∧ i.size = n) ∧ ∀ w, (isAgg t).run P w = .ok true w := by
  unfold aggOf at h
  split at h
  · rename_i hu hi
    cases h
    exact ⟨⟨_, hi, rfl⟩, fun w => by simp [isAgg, run_underlying hu]⟩
  · rename_i hu hi
    cases h
    exact ⟨⟨_, hi, rfl⟩, fun w => by simp [isAgg, run_underlying hu]⟩
  · cases h
  · cases h

theorem aggOf_none {P : Program} {t : TypeId} (h : aggOf P t = some none) : (∃ i, P.info? t = some i) ∧ ∀ w, (isAgg t).run P w = .ok false w := by
  unfold aggOf at h
  split at h
  · cases h
  · cases h
  · rename_i d i h1 h2 hu hi
    refine ⟨⟨_, hi⟩, fun w => ?_⟩
    cases d with
    | struct fs => simp_all
    | array n e => simp_all
    | _ => simp [isAgg, run_underlying hu]
  · cases h

/-- Reading a value of a type at an address, where the cells are known. -/
theorem run_loadVar_cells {P : Program} {g : G} {w : World} {t : TypeId} {agg : Option Nat} (hag : aggOf P t = some agg) {cs : List AV} {off cb o : Nat} {v : AV} (hv : takeAV agg cs off = some v)
    (hc : ∀ (j : Nat) (u : AV), cs[j]? = some u → u.one = true ∧ ∃ V, w.cell? ⟨cb, o + j, none⟩ = some V ∧ Rel g u V) :
    ∃ V, (loadVar t ⟨cb, o + off, none⟩).run P w = .ok V w ∧ Rel g v V := by
  cases agg with
  | none =>
    obtain ⟨⟨i, hi⟩, hagg⟩ := aggOf_none hag
    obtain ⟨_, V, h1, h2⟩ := hc off v hv
    exact ⟨V, by simp [loadVar, hagg, h1], h2⟩
  | some n =>
    obtain ⟨⟨i, hi, hn⟩, hagg⟩ := aggOf_some hag
    simp only [takeAV] at hv
    split at hv
    · rename_i hle
      cases hv
      have hget : ∀ j, j < n → ∃ u V, cs[off + j]? = some u ∧ u.one = true ∧ w.cell? ⟨cb, o + off + j, none⟩ = some V ∧ Rel g u V := by
        intro j hj
        have hlt : off + j < cs.length := by omega
        obtain ⟨h1, V, h2, h3⟩ := hc (off + j) _ (List.getElem?_eq_getElem hlt)
        exact ⟨_, V, List.getElem?_eq_getElem hlt, h1, by rw [Nat.add_assoc]; exact h2, h3⟩
      let f : Nat → Value := fun j => (w.cell? ⟨cb, o + off + j, none⟩).getD undef
      have hf : ∀ j, j < n → w.cell? ((⟨cb, o + off, none⟩ : Addr).add j) = some (f j) := by
        intro j hj
        obtain ⟨u, V, _, _, h2, _⟩ := hget j hj
        have ha : (⟨cb, o + off, none⟩ : Addr).add j = ⟨cb, o + off + j, none⟩ := by unfold Addr.add; split <;> simp_all
        rw [ha]
        simp only [f, h2, Option.getD_some]
      have hl := run_loadCells (P := P) w ⟨cb, o + off, none⟩ n f hf
      refine ⟨.agg ((List.range n).map f).toArray, by simp [loadVar, hagg, sizeOf, typeInfo, hi, hn, hl], ?_⟩
      refine RelL.agg ⟨by simp; omega, fun j c u hj hu => ?_⟩ ?_
      · have hjn : j < n := by
          rcases Nat.lt_or_ge j n with h | h
          · exact h
          · rw [List.getElem?_take, if_neg (by omega)] at hj; cases hj
        rw [drop_take_get _ _ _ _ hjn] at hj
        obtain ⟨u', V, h1, _, h2, h3⟩ := hget j hjn
        rw [h1] at hj
        cases hj
        simp [hjn, f, h2] at hu
        subst hu
        exact h3
      · intro c hcm
        obtain ⟨j, hj, hjc⟩ := List.getElem_of_mem hcm
        have hjn : j < n := by
          have := hj
          simp at this
          omega
        obtain ⟨u', V, h1, h4, _⟩ := hget j hjn
        have hj' : ((cs.drop off).take n)[j]? = some c := by rw [List.getElem?_eq_getElem hj, hjc]
        rw [drop_take_get _ _ _ _ hjn, h1] at hj'
        cases hj'
        exact h4
    · cases hv

theorem sound_load {P : Program} {g : G} {A : Heap} {w : World} (hs : Sim g A w) {t : TypeId} {agg : Option Nat} (hag : aggOf P t = some agg) {x v : AV} {X : Value} (hx : Rel g x X) (hv : loadAV A agg x = some v) :
    ∃ V, (Instr.loadAt t X).run P w = .ok V w ∧ Rel g v V := by
  unfold loadAV at hv
  split at hv
  · rename_i b off
    split at hv
    · rename_i cs hb
      obtain ⟨cb, sh, top, hm, c, e, hh, htop, hlen, hcs⟩ := hs.blk _ _ hb
      cases hx with
      | ptr _ _ a hbn ha =>
        have := ha _ _ _ hm
        subst this
        obtain ⟨V, h1, h2⟩ := run_loadVar_cells (P := P) (g := g) (w := w) hag hv (cb := cb) (o := sh) (fun j u hu => by
          obtain ⟨h1, V, h2, h3⟩ := hcs j u hu
          exact ⟨h1, V, by simp [World.cell?, hh, h2], h3⟩)
        exact ⟨V, by simp [Instr.loadAt, Instr.sureAddr, h1], h2⟩
    · cases hv
  · rename_i cs off
    cases hx with
    | iptr _ _ cb o h =>
      obtain ⟨V, h1, h2⟩ := run_loadVar_cells (P := P) (g := g) (w := w) hag hv (cb := cb) (o := o) (fun j u hu => by
        obtain ⟨V, h2, h3, h4⟩ := hs.imm _ _ _ (h j u hu)
        exact ⟨h4, V, h2, h3⟩)
      exact ⟨V, by simp [Instr.loadAt, Instr.sureAddr, h1], h2⟩
  · cases hv

/-! bytes -/
theorem push_bytes (ns : List Int) : ∀ s : ByteArray, (ns.foldl (fun r n => r.push (UInt8.ofNat n.toNat)) s).data.toList = s.data.toList ++ ns.map fun n => UInt8.ofNat n.toNat := by
  induction ns with
  | nil => intro s; simp
  | cons n ns ih =>
    intro s
    rw [List.foldl_cons, ih]
    simp [ByteArray.push]

theorem mapM_bytes : ∀ {l : List AV} {s : List UInt8}, l.mapM byteAV = some s → ∃ ns : List Int, l = ns.map (AV.int .u8) ∧ s = ns.map fun n => UInt8.ofNat n.toNat
  | [], s, h => by simp at h; subst h; exact ⟨[], rfl, rfl⟩
  | v :: l, s, h => by
    simp only [List.mapM_cons, Option.bind_eq_bind, Option.bind_eq_some_iff, Option.pure_def, Option.some.injEq] at h
    obtain ⟨b, hb, s', hs, rfl⟩ := h
    obtain ⟨ns, rfl, rfl⟩ := mapM_bytes hs
    unfold byteAV at hb
    split at hb
    · rename_i n
      cases hb
      exact ⟨n :: ns, rfl, rfl⟩
    · cases hb

theorem run_bytes {P : Program} {g : G} {w : World} {cb o c : Nat} (ns : List Int) (h : ∀ (j : Nat) (n : Int), ns[j]? = some n → ∃ V, w.cell? ⟨cb, o + j, none⟩ = some V ∧ Rel g (.int .u8 n) V) :
    ∃ s : ByteArray, (Conv.bytesToString (.slice (some ⟨cb, o, none⟩) ns.length c)).run P w = .ok (.string s) w ∧ s.data.toList = ns.map fun n => UInt8.ofNat n.toNat := by
  have hl := run_loadCells (P := P) w ⟨cb, o, none⟩ ns.length (fun j => Value.int .u8 (ns.getD j 0)) (fun j hj => by
    obtain ⟨V, h1, h2⟩ := h j _ (List.getElem?_eq_getElem hj)
    have ha : (⟨cb, o, none⟩ : Addr).add j = ⟨cb, o + j, none⟩ := by unfold Addr.add; split <;> simp_all
    rw [ha, h1, rel_int h2, List.getD_eq_getElem?_getD, List.getElem?_eq_getElem hj]
    rfl)
  have he : ((List.range ns.length).map fun j => Value.int .u8 (ns.getD j 0)) = ns.map (Value.int .u8) := by
    apply List.ext_getElem
    · simp
    · intro i h1 h2
      simp at h1 h2
      simp [List.getD_eq_getElem?_getD, h1]
  rw [he] at hl
  exact ⟨_, run_bytesToString w _ _ c ns hl, by rw [push_bytes]; rfl⟩

theorem sound_bytes {P : Program} {g : G} {A : Heap} {w : World} (hs : Sim g A w) {x : AV} {X : Value} (hx : Rel g x X) {s : List UInt8} (h : bytesAV A x = some s) : ∃ b : ByteArray, (Conv.bytesToString X).run P w = .ok (.string b) w ∧ b.data.toList = s := by
  unfold bytesAV at h
  split at h
  · cases h
    cases hx
    exact ⟨.empty, by simp [Conv.bytesToString], rfl⟩
  · rename_i e b off len cap
    split at h
    · rename_i he
      subst he
      split at h
      · rename_i cs hA
        split at h
        · rename_i hle
          obtain ⟨ns, h1, rfl⟩ := mapM_bytes h
          obtain ⟨cb, sh, top, hm, c, e, hh, htop, hlen, hcs⟩ := hs.blk _ _ hA
          have hnl : ns.length = len := by
            have := congrArg List.length h1
            simp at this
            omega
          subst hnl
          cases hx with
          | slice _ _ _ _ _ a c' hb hlc hcap hsp hlive =>
            cases ns with
            | nil =>
              refine ⟨.empty, ?_, rfl⟩
              have hl := run_loadCells (P := P) w a 0 (fun _ => undef) (fun j hj => by omega)
              exact run_bytesToString w a 0 c' [] (by simpa using hl)
            | cons n0 ns =>
              obtain ⟨rfl, _⟩ := hlive (by simp at hlc; omega) _ _ _ hm
              refine run_bytes (g := g) (n0 :: ns) fun j n hj => ?_
              have hjl := (List.getElem?_eq_some_iff.1 hj).1
              have h2 : ((cs.drop off).take (n0 :: ns).length)[j]? = some (.int .u8 n) := by rw [h1, List.getElem?_map, hj]; rfl
              rw [drop_take_get _ _ _ _ hjl] at h2
              obtain ⟨_, V, h3, h4⟩ := hcs _ _ h2
              exact ⟨V, by simp [World.cell?, hh, Nat.add_assoc, h3], h4⟩
        · cases h
      · cases h
    · cases h
  · rename_i e es ex
    split at h
    · rename_i he
      subst he
      obtain ⟨ns, rfl, rfl⟩ := mapM_bytes h
      cases hx with
      | islice _ _ _ cb o c hlc hex him =>
        have := run_bytes (P := P) (g := g) (w := w) (cb := cb) (o := o) (c := c) ns (fun j n hj => by
          obtain ⟨_, q⟩ := him j (.int .u8 n) (by rw [List.getElem?_map, hj]; rfl)
          obtain ⟨V, h3, h4, _⟩ := hs.imm _ _ _ (q 0 (.int .u8 n) rfl)
          refine ⟨V, ?_, h4⟩
          simpa using h3)
        simpa using this
    · cases h
  · cases h

/-! parts of a struct's value -/
theorem sound_part {P : Program} {g : G} {w : World} {t : TypeId} {agg : Option Nat} (hag : aggOf P t = some agg) {cs : List AV} {vs : Array Value} (hr : RelL g cs vs) (hone : ∀ c ∈ cs, c.one = true) {off : Nat} {v : AV} (hv : takeAV agg cs off = some v) :
    ∃ V, (part t vs off).run P w = .ok V w ∧ Rel g v V := by
  cases agg with
  | none =>
    obtain ⟨⟨i, hi⟩, hagg⟩ := aggOf_none hag
    obtain ⟨V, h1, h2⟩ := hr.get? (i := off) (c := v) hv
    exact ⟨V, by simp [part, hagg, h1], h2⟩
  | some n =>
    obtain ⟨⟨i, hi, hn⟩, hagg⟩ := aggOf_some hag
    simp only [takeAV] at hv
    split at hv
    · rename_i hle
      cases hv
      refine ⟨.agg (vs.extract off (off + n)), by simp [part, hagg, sizeOf, typeInfo, hi, hn], ?_⟩
      refine RelL.agg ⟨by have := hr.len; simp; omega, fun j c u hj hu => ?_⟩ fun c hc => hone c (List.mem_of_mem_drop (List.mem_of_mem_take hc))
      have hjn : j < n := by
        rcases Nat.lt_or_ge j n with h | h
        · exact h
        · rw [List.getElem?_take, if_neg (by omega)] at hj; cases hj
      rw [drop_take_get _ _ _ _ hjn] at hj
      refine hr.rel (off + j) c u hj ?_
      simp only [Array.getElem?_extract] at hu
      split at hu
      · exact hu
      · cases hu
    · cases hv

end Go.NL
