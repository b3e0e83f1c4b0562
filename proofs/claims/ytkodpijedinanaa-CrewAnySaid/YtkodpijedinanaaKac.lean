/- Texts that the claim imports, laid together: MaR MaS MaH MaI. No statement of their own. -/
import Derived.Test.YtkodpijedinanaaKab
namespace Go.Proofs.Ytkodpijedinanaa.Sim
open Go
set_option linter.unusedVariables false
set_option linter.unusedSimpArgs false

section
variable {P : Program} {ρ : Ren}
def notCopyB (P : Program) (t : TypeId) : Bool := match ((P.info? t).map (·.desc) : Option TypeDesc) with
  | some (.named "sync.copyChecker" _) => false
  | _ => true
theorem not_copy {t : TypeId} (h : notCopyB P t = true) : ∀ i, P.info? t = some i → ∀ u, i.desc ≠ .named "sync.copyChecker" u := fun i hi u hu => by
  simp [notCopyB, hi, hu] at h
/-- Numbers, truths, and structs of such. -/
def flatT (P : Program) : Nat → TypeId → Bool
  | 0, _ => false
  | d + 1, t => match P.underlying t with
    | some .bool => true
    | some (.int _) => notCopyB P t
    | some (.struct fs) => !P.stoodInHeld t && fs.all fun f => flatT P d f.type
    | _ => false
theorem srel_forIn {α β : Type} (l : List α) (f f' : α → β → Sem (ForInStep β)) : ∀ (ρ : Ren), Above P ρ → (∀ ρ', Ren.le ρ ρ' → Above P ρ' → ∀ a ∈ l, ∀ b, SemRel P (fun _ x y => x = y) ρ' (f a b) (f' a b)) → ∀ b : β, SemRel P (fun _ x y => x = y) ρ (forIn l b f) (forIn l b f') := by
  induction l with
  | nil => intro ρ hA h b; simp only [List.forIn_nil]; exact .pure rfl
  | cons a l ih =>
    intro ρ hA h b
    simp only [List.forIn_cons]
    refine srel_bindA hA (h ρ (Ren.le.refl _) hA a (by simp) b) fun ρ1 l1 hA1 x y hxy => ?_
    subst hxy
    cases x with
    | done b => exact .pure rfl
    | yield b => exact ih ρ1 hA1 (fun ρ' l' hA' a ha b => h ρ' (l1.trans l') hA' a (by simp [ha]) b) b
theorem srel_part {t : TypeId} {c d : Array Value} (off : Nat) (h : RowRel ρ c d) : SemRel P VRel ρ (part t c off) (part t d off) := by
  unfold part
  refine srel_bind (srel_isAgg t) fun ρ1 l1 a b hab => ?_
  subst hab
  cases a with
  | true =>
    refine srel_map (srel_sizeOf t) fun ρ2 l2 a b hab => ?_
    obtain ⟨rfl, _⟩ := hab
    refine .agg (by simp [h.1]) fun i v w hv hw => ?_
    simp only [Array.getElem?_extract] at hv hw
    split at hv
    · split at hw
      · exact ((h.2 _ v w hv hw).mono l1).mono l2
      · cases hw
    · cases hv
  | false =>
    cases hc : c[off]? with
    | none => exact .halt _ _
    | some v =>
      obtain ⟨w, hw, hvw⟩ := h.at hc
      rw [hw]
      exact .pure (hvw.mono l1)
theorem srel_equalFlat : ∀ (d : Nat) (t : TypeId), flatT P d t = true → ∀ (n : Nat), d ≤ n → ∀ (ρ : Ren), Above P ρ → ∀ v w x y, VRel ρ v w → VRel ρ x y → SemRel P (fun _ a b => a = b) ρ (Op.equalIn n t v x) (Op.equalIn n t w y) := by
  intro d
  induction d with
  | zero => intro t ht; simp [flatT] at ht
  | succ d ih =>
    intro t ht n hn ρ hA v w x y h k
    obtain ⟨n, rfl⟩ : ∃ m, n = m + 1 := ⟨n - 1, by omega⟩
    unfold flatT at ht
    cases hu : P.underlying t with
    | none => rw [hu] at ht; cases ht
    | some td =>
      rw [hu] at ht
      cases td with
      | int k0 => exact srel_eqIntD n hu (not_copy ht) hA h k
      | bool =>
        unfold Op.equalIn
        refine srel_bind (srel_underlying t) fun ρ1 l1 a b hab => ?_
        obtain ⟨rfl, hu'⟩ := hab
        rw [hu] at hu'
        cases hu'
        cases h <;> first
          | exact .halt _ _
          | (cases k <;> first | exact .pure rfl | exact .halt _ _)
      | struct fs =>
        simp only [Bool.and_eq_true, Bool.not_eq_true', Array.all_eq_true'] at ht
        unfold Op.equalIn
        refine srel_bindA hA (srel_underlying t) fun ρ1 l1 hA1 a b hab => ?_
        obtain ⟨rfl, hu'⟩ := hab
        rw [hu] at hu'
        cases hu'
        cases h.mono l1 <;> first
          | exact .halt _ _
          | skip
        rename_i c1 c2 hs1 hr1
        cases k.mono l1 <;> first
          | exact .halt _ _
          | skip
        rename_i e1 e2 hs2 hr2
        dsimp only
        refine srel_bindA hA1 srel_program fun ρ2 l2 hA2 p q hpq => ?_
        obtain ⟨rfl, rfl⟩ := hpq
        rw [ht.1]
        simp only [Bool.false_eq_true, if_false]
        have hloop := srel_forIn (P := q) fs.toList (fun f (r : Option Bool × Unit) => do
            if f.name ≠ "_" then
              if !(← Op.equalIn n f.type (← part f.type c1 f.offset) (← part f.type e1 f.offset)) then pure (.done (some false, ())) else pure (.yield (none, ()))
            else pure (.yield (none, ()))) (fun f (r : Option Bool × Unit) => do
            if f.name ≠ "_" then
              if !(← Op.equalIn n f.type (← part f.type c2 f.offset) (← part f.type e2 f.offset)) then pure (.done (some false, ())) else pure (.yield (none, ()))
            else pure (.yield (none, ()))) ρ2 hA2 (fun ρ' l' hA' f hf b => ?_) (none, ())
        · rw [Array.forIn_toList, Array.forIn_toList] at hloop
          refine srel_bind hloop fun ρ3 l3 a b hab => ?_
          subst hab
          split <;> exact .pure rfl
        · split
          · have R1 : RowRel ρ' c1 c2 := RowRel.mono (l2.trans l') ⟨hs1, hr1⟩
            have R2 : RowRel ρ' e1 e2 := RowRel.mono (l2.trans l') ⟨hs2, hr2⟩
            refine srel_bindA hA' (srel_part f.offset R1) fun ρ3 l3 hA3 a b hab => ?_
            refine srel_bindA hA3 (srel_part f.offset (R2.mono l3)) fun ρ4 l4 hA4 a' b' hab' => ?_
            refine srel_bind (ih f.type (ht.2 f (by simpa using hf)) n (by omega) ρ4 hA4 _ _ _ _ (hab.mono l4) hab') fun ρ5 l5 r r' hrr => ?_
            subst hrr
            split <;> exact .pure rfl
          · exact .pure rfl
      | _ => cases ht
/-- A comparison of values that Op.equal compares alike. -/
theorem srel_binEq {op : BinOp} (hop : op = .eql ∨ op = .neq) {t : TypeId} (hd : ∀ (c : Array Value) x, Dead P (Op.equal t (.tuple c) x) ∧ Dead P (Op.equal t x (.tuple c))) {v w x y : Value} (h : VRel ρ v w) (k : VRel ρ x y)
    (he : SemRel P (fun _ a b => a = b) ρ (Op.equal t v x) (Op.equal t w y)) : SemRel P VRel ρ (binOp op t v x) (binOp op t w y) := by
  have e1 := srel_map he (S := VRel) (f := fun b => Value.bool b) (f' := fun b => Value.bool b) fun ρ' l a b hab => by rw [hab]; exact .bool b
  have n1 := srel_map he (S := VRel) (f := fun b => Value.bool !b) (f' := fun b => Value.bool !b) fun ρ' l a b hab => by rw [hab]; exact .bool _
  have hj : ∀ (op : BinOp) (k1 k2 : IntKind) (a b : Int), SemRel P VRel ρ (if k1 ≠ k2 then stuck "BinOp: operands of different kinds" else Op.intCmp op a b) (if k1 ≠ k2 then stuck "BinOp: operands of different kinds" else Op.intCmp op a b) := fun op k1 k2 a b => by
    split
    · exact .halt _ _
    · exact srel_intCmp op a b
  have dead : ∀ (v x : Value), (∃ c, v = .tuple c) ∨ (∃ c, x = .tuple c) → Dead P (binOp op t v x) := fun v x hc => by
    have hq : Dead P (Op.equal t v x) := by
      rcases hc with ⟨c, rfl⟩ | ⟨c, rfl⟩
      · exact (hd c x).1
      · exact (hd c v).2
    have q1 := hq.bind fun b => pure (Value.bool b)
    have q2 := hq.bind fun b => pure (Value.bool !b)
    rcases hc with ⟨c, rfl⟩ | ⟨c, rfl⟩
    · rcases hop with rfl | rfl <;> (cases x <;> first | exact q1 | exact q2)
    · rcases hop with rfl | rfl <;> (cases v <;> first | exact q1 | exact q2)
  by_cases hv : ∃ c, v = .tuple c
  · exact .dead (dead v x (.inl hv)) _
  by_cases hx : ∃ c, x = .tuple c
  · exact .dead (dead v x (.inr hx)) _
  rcases hop with rfl | rfl
  all_goals (cases h <;> first
    | (exact absurd ⟨_, rfl⟩ hv)
    | skip)
  all_goals (cases k <;> first
    | (exact absurd ⟨_, rfl⟩ hx)
    | exact e1
    | exact n1
    | exact hj _ _ _ _ _
    | exact srel_stringOp .eql _ _
    | exact srel_stringOp .neq _ _)
theorem srel_eqSliceNil {t e : TypeId} (ht : P.underlying t = some (.slice e)) {v w : Value} (h : VRel ρ v w) (a b : Nat) :
    SemRel P (fun _ a b => a = b) ρ (Op.equal t v (.slice none a b)) (Op.equal t w (.slice none a b)) := by
  unfold Op.equal Op.maxDepth Op.equalIn
  refine srel_bind (srel_underlying t) fun ρ1 l1 p q hab => ?_
  obtain ⟨rfl, hu'⟩ := hab
  rw [ht] at hu'
  cases hu'
  cases h <;> first | exact .pure rfl | exact .halt _ _
theorem dead_eqOf {t : TypeId} {td : TypeDesc} (ht : P.underlying t = some td) (hk : (∃ fs, td = .struct fs) ∨ ∃ e, td = .slice e) (c : Array Value) (x : Value) : Dead P (Op.equal t (.tuple c) x) ∧ Dead P (Op.equal t x (.tuple c)) := by
  constructor <;> (
    unfold Op.equal Op.maxDepth Op.equalIn
    refine .program ?_
    show Dead P (Sem.bind (match P.underlying t with
      | some d => pure d
      | none => _) _)
    rw [ht]
    rcases hk with ⟨fs, rfl⟩ | ⟨e, rfl⟩ <;> (cases x <;> first
      | exact .halt _
      | (rename_i a _ _; cases a <;> exact .halt _)))
theorem srel_binFlat {op : BinOp} (hop : op = .eql ∨ op = .neq) {d : Nat} {t : TypeId} (ht : flatT P d t = true) (hd : d ≤ Op.maxDepth) (hs : ∃ fs, P.underlying t = some (.struct fs)) (hA : Above P ρ) {v w x y : Value} (h : VRel ρ v w) (k : VRel ρ x y) :
    SemRel P VRel ρ (binOp op t v x) (binOp op t w y) := by
  obtain ⟨fs, hfs⟩ := hs
  exact srel_binEq hop (dead_eqOf hfs (.inl ⟨fs, rfl⟩)) h k (srel_equalFlat d t ht _ hd ρ hA _ _ _ _ h k)
theorem srel_binNil {op : BinOp} (hop : op = .eql ∨ op = .neq) {t e : TypeId} (ht : P.underlying t = some (.slice e)) {v w : Value} (h : VRel ρ v w) (a b : Nat) :
    SemRel P VRel ρ (binOp op t v (.slice none a b)) (binOp op t w (.slice none a b)) :=
  srel_binEq hop (dead_eqOf ht (.inr ⟨e, rfl⟩)) h (.sliceNil a b) (srel_eqSliceNil ht h a b)
theorem srel_zerosNew {elem : TypeId} (hz : ZeroOk P elem) (n size : Nat) (X X' : Sem (Array Value)) : SemRel P (fun ρ a b => RowRel ρ a b ∧ (n = 0 → a = #[] ∧ b = #[])) ρ (if (!true) = true then X else if n * size = 0 then pure #[] else do pure (Builtin.zeroCells (← zeroValue elem).cells n)) (if (!true) = true then X' else if n * size = 0 then pure #[] else do pure (Builtin.zeroCells (← zeroValue elem).cells n)) := by
  have hb : ¬ ((!true) = true) := by decide
  rw [if_neg hb, if_neg hb]
  split
  · exact .pure ⟨RowRel.nil _, fun _ => ⟨rfl, rfl⟩⟩
  · rename_i hne
    refine srel_map (srel_zeroValue hz) fun ρ1 l1 a b hab => ⟨?_, fun h0 => absurd (by rw [h0, Nat.zero_mul]) hne⟩
    unfold Builtin.zeroCells
    have := hab.1.cells
    rw [← this.1]
    exact this.repeated _ _
theorem srel_ite {α β : Type} {R : Ren → α → β → Prop} {c : Prop} [Decidable c] {A B : Sem α} {A' B' : Sem β} (h1 : c → SemRel P R ρ A A') (h2 : ¬ c → SemRel P R ρ B B') : SemRel P R ρ (if c then A else B) (if c then A' else B') := by
  by_cases h : c
  · rw [if_pos h, if_pos h]; exact h1 h
  · rw [if_neg h, if_neg h]; exact h2 h
theorem srel_iteT {α β : Type} {R : Ren → α → β → Prop} {c : Prop} [Decidable c] {A B : Sem α} {A' B' : Sem β} (h : c) (h1 : SemRel P R ρ A A') : SemRel P R ρ (if c then A else B) (if c then A' else B') := by
  rw [if_pos h, if_pos h]; exact h1
theorem srel_appendZ (ats : Array TypeId) (ty : TypeId) {c d : Array Value} (h : RowRel ρ c d) {k0 : IntKind} (hi : ∃ t, ats[1]? = some t ∧ P.underlying t = some (.int k0)) (hz : ∀ t e, ats[0]? = some t → P.underlying t = some (.slice e) → ZeroOk P e) :
    SemRel P VRel ρ (Builtin.append_ ats ty c) (Builtin.append_ ats ty d) := by
  obtain ⟨xt, hxt, hxu⟩ := hi
  unfold Builtin.append_
  cases ht : ats[0]? with
  | none => exact .halt _ _
  | some sT =>
    cases hc0 : c[0]? with
    | none => exact .halt _ _
    | some v =>
      obtain ⟨w, hw, hvw⟩ := h.at hc0
      cases hc1 : c[1]? with
      | none => exact .halt _ _
      | some x =>
        obtain ⟨y, hy, hxy⟩ := h.at hc1
        rw [hw, hy]
        dsimp only
        refine srel_bind (srel_underlying sT) fun ρ1 l1 a b hab => ?_
        obtain ⟨rfl, hu⟩ := hab
        cases a with
        | slice elem =>
          have hz := hz sT elem ht hu
          have hv1 := hvw.mono l1
          have hx1 := hxy.mono l1
          clear hvw hxy h
          have both : ∀ (S S' : Bool → Sem Value) ρ2, Ren.le ρ1 ρ2 → (∀ ρ3, Ren.le ρ2 ρ3 → SemRel P VRel ρ3 (S true) (S' true)) → SemRel P VRel ρ2 (match ats[1]? with
              | some xType => do
                let __do_lift ← underlying xType
                let zeros ← pure (match __do_lift with
                  | TypeDesc.int k => true
                  | x => false)
                S zeros
              | none => do
                let zeros ← pure false
                S zeros) (match ats[1]? with
              | some xType => do
                let __do_lift ← underlying xType
                let zeros ← pure (match __do_lift with
                  | TypeDesc.int k => true
                  | x => false)
                S' zeros
              | none => do
                let zeros ← pure false
                S' zeros) := fun S S' ρ2 l2 hS => by
            rw [hxt]
            refine srel_bind (srel_underlying xt) fun ρ3 l3 a b hab => ?_
            obtain ⟨rfl, hu1⟩ := hab
            rw [hxu] at hu1
            cases hu1
            exact hS ρ3 l3
          have hv2 := hv1
          cases hv1 with
          | slice sl sc q =>
            refine srel_bind (srel_sizeOf elem) fun ρ2 l2 m m' hm => ?_
            obtain ⟨rfl, _⟩ := hm
            refine both _ _ ρ2 l2 fun ρ2' l2' => ?_
            refine srel_iteT (c := (true = true)) rfl ?_
            refine srel_bind (srel_asInt ((hx1.mono l2).mono l2')) fun ρ3 l3 n n' hn => ?_
            subst hn
            refine srel_ite (fun hlt => ?_) (fun hlt => ?_)
            · exact srel_bind (R := fun _ _ _ => False) (srel_rpanic (by trivial) (by trivial)) fun _ _ _ _ h => h.elim
            · refine srel_bind (srel_typeInfo elem) fun ρ4 l4 i i' hi => ?_
              obtain ⟨rfl, _⟩ := hi
              refine srel_ite (fun hbig => ?_) (fun hbig => ?_)
              · refine srel_bind (R := fun _ a b => a = b) (.choose _ fun z => .pure rfl) fun ρ5 l5 a b hab => ?_
                subst hab
                exact srel_bind (R := fun _ _ _ => False) (srel_rpanic (by trivial) (by trivial)) fun _ _ _ _ h => h.elim
              · refine srel_bind (R := fun _ a b => a = b) (.pure rfl) fun ρ5 l5 nn nn' hn => ?_
                subst hn
                refine srel_ite (fun hle0 => ?_) (fun hle0 => ?_)
                · refine srel_bind (srel_zerosNew hz nn m _ _) fun ρ6 l6 new new' hnew => ?_
                  refine srel_bind (srel_storeCells (((q.mono (l2.trans (l2'.trans (l3.trans (l4.trans (l5.trans l6)))))).add _)) _ _ 0 hnew.1.toList.1 hnew.1.toList.2) fun ρ7 l7 _ _ _ => ?_
                  exact .pure (.slice _ _ (q.mono (l2.trans (l2'.trans (l3.trans (l4.trans (l5.trans (l6.trans l7))))))))
                · refine srel_bind (srel_typeInfo elem) fun ρ6 l6 i i' hi => ?_
                  obtain ⟨rfl, _⟩ := hi
                  refine srel_ite (fun hmax => ?_) (fun hmax => ?_)
                  · exact srel_bind (R := fun _ _ _ => False) (srel_rpanic (by trivial) (by trivial)) fun _ _ _ _ h => h.elim
                  · refine srel_bind (srel_typeInfo elem) fun ρ7 l7 i i' hi => ?_
                    obtain ⟨rfl, _⟩ := hi
                    refine srel_ite (fun hcap => ?_) (fun hcap => ?_)
                    · exact srel_bind (R := fun _ _ _ => False) (srel_iteT (c := (true = true)) rfl (srel_rpanic (by trivial) (by trivial))) fun _ _ _ _ h => h.elim
                    · refine srel_bind (R := fun _ a b => a = b) (.choose _ fun z => .pure rfl) fun ρ8 l8 nc nc' hnc => ?_
                      subst hnc
                      refine srel_bind (srel_typeInfo elem) fun ρ9 l9 i i' hi => ?_
                      obtain ⟨rfl, _⟩ := hi
                      refine srel_bind (srel_askRoom _) fun ρ10 l10 _ _ _ => ?_
                      have hle := l2.trans (l2'.trans (l3.trans (l4.trans (l5.trans (l6.trans (l7.trans (l8.trans (l9.trans l10))))))))
                      refine srel_bind (srel_firstCells m _ (hv2.mono hle) fun e => by obtain ⟨x, e⟩ := e; cases e; rfl) fun ρ11 l11 old old' hold => ?_
                      refine srel_bind (srel_zerosNew hz nn m _ _) fun ρ12 l12 new new' hnew => ?_
                      refine srel_bind (srel_zeroValue hz) fun ρ13 l13 z z' hzz => ?_
                      refine srel_map (srel_newRow elem ((((hold.mono l12).mono l13).append (hnew.1.mono l13)).append ?_)) fun ρ14 l14 a b hab => .slice _ _ hab
                      unfold Builtin.zeroCells
                      have := hzz.1.cells
                      rw [← this.1]
                      exact this.repeated _ _
          | sliceNil sl sc =>
            refine srel_bind (srel_sizeOf elem) fun ρ2 l2 m m' hm => ?_
            obtain ⟨rfl, _⟩ := hm
            refine both _ _ ρ2 l2 fun ρ2' l2' => ?_
            refine srel_iteT (c := (true = true)) rfl ?_
            refine srel_bind (srel_asInt ((hx1.mono l2).mono l2')) fun ρ3 l3 n n' hn => ?_
            subst hn
            refine srel_ite (fun hlt => ?_) (fun hlt => ?_)
            · exact srel_bind (R := fun _ _ _ => False) (srel_rpanic (by trivial) (by trivial)) fun _ _ _ _ h => h.elim
            · refine srel_bind (srel_typeInfo elem) fun ρ4 l4 i i' hi => ?_
              obtain ⟨rfl, _⟩ := hi
              refine srel_ite (fun hbig => ?_) (fun hbig => ?_)
              · refine srel_bind (R := fun _ a b => a = b) (.choose _ fun z => .pure rfl) fun ρ5 l5 a b hab => ?_
                subst hab
                exact srel_bind (R := fun _ _ _ => False) (srel_rpanic (by trivial) (by trivial)) fun _ _ _ _ h => h.elim
              · refine srel_bind (R := fun _ a b => a = b) (.pure rfl) fun ρ5 l5 nn nn' hn => ?_
                subst hn
                refine srel_ite (fun hle0 => ?_) (fun hle0 => ?_)
                · refine srel_bind (srel_zerosNew hz nn m _ _) fun ρ6 l6 new new' hnew => ?_
                  exact .pure (.sliceNil _ _)
                · refine srel_bind (srel_typeInfo elem) fun ρ6 l6 i i' hi => ?_
                  obtain ⟨rfl, _⟩ := hi
                  refine srel_ite (fun hmax => ?_) (fun hmax => ?_)
                  · exact srel_bind (R := fun _ _ _ => False) (srel_rpanic (by trivial) (by trivial)) fun _ _ _ _ h => h.elim
                  · refine srel_bind (srel_typeInfo elem) fun ρ7 l7 i i' hi => ?_
                    obtain ⟨rfl, _⟩ := hi
                    refine srel_ite (fun hcap => ?_) (fun hcap => ?_)
                    · exact srel_bind (R := fun _ _ _ => False) (srel_iteT (c := (true = true)) rfl (srel_rpanic (by trivial) (by trivial))) fun _ _ _ _ h => h.elim
                    · refine srel_bind (R := fun _ a b => a = b) (.choose _ fun z => .pure rfl) fun ρ8 l8 nc nc' hnc => ?_
                      subst hnc
                      refine srel_bind (srel_typeInfo elem) fun ρ9 l9 i i' hi => ?_
                      obtain ⟨rfl, _⟩ := hi
                      refine srel_bind (srel_askRoom _) fun ρ10 l10 _ _ _ => ?_
                      have hle := l2.trans (l2'.trans (l3.trans (l4.trans (l5.trans (l6.trans (l7.trans (l8.trans (l9.trans l10))))))))
                      refine srel_bind (srel_firstCells m _ (hv2.mono hle) fun e => by obtain ⟨x, e⟩ := e; cases e) fun ρ11 l11 old old' hold => ?_
                      refine srel_bind (srel_zerosNew hz nn m _ _) fun ρ12 l12 new new' hnew => ?_
                      refine srel_bind (srel_zeroValue hz) fun ρ13 l13 z z' hzz => ?_
                      refine srel_map (srel_newRow elem ((((hold.mono l12).mono l13).append (hnew.1.mono l13)).append ?_)) fun ρ14 l14 a b hab => .slice _ _ hab
                      unfold Builtin.zeroCells
                      have := hzz.1.cells
                      rw [← this.1]
                      exact this.repeated _ _
          | sliceE pd ad =>
            refine srel_bind (srel_sizeOf elem) fun ρ2 l2 m m' hm => ?_
            obtain ⟨rfl, _⟩ := hm
            refine both _ _ ρ2 l2 fun ρ2' l2' => ?_
            refine srel_iteT (c := (true = true)) rfl ?_
            refine srel_bind (srel_asInt ((hx1.mono l2).mono l2')) fun ρ3 l3 n n' hn => ?_
            subst hn
            refine srel_ite (fun hlt => ?_) (fun hlt => ?_)
            · exact srel_bind (R := fun _ _ _ => False) (srel_rpanic (by trivial) (by trivial)) fun _ _ _ _ h => h.elim
            · refine srel_bind (srel_typeInfo elem) fun ρ4 l4 i i' hi => ?_
              obtain ⟨rfl, _⟩ := hi
              refine srel_ite (fun hbig => ?_) (fun hbig => ?_)
              · refine srel_bind (R := fun _ a b => a = b) (.choose _ fun z => .pure rfl) fun ρ5 l5 a b hab => ?_
                subst hab
                exact srel_bind (R := fun _ _ _ => False) (srel_rpanic (by trivial) (by trivial)) fun _ _ _ _ h => h.elim
              · refine srel_bind (R := fun _ a b => a = b) (.pure rfl) fun ρ5 l5 nn nn' hn => ?_
                subst hn
                refine srel_ite (fun hle0 => ?_) (fun hle0 => ?_)
                · have hn0 : nn = 0 := by omega
                  refine srel_bind (srel_zerosNew hz nn m _ _) fun ρ6 l6 new new' hnew => ?_
                  obtain ⟨rfl, rfl⟩ := hnew.2 hn0
                  subst hn0
                  exact .pure (.sliceE _ _)
                · refine srel_bind (srel_typeInfo elem) fun ρ6 l6 i i' hi => ?_
                  obtain ⟨rfl, _⟩ := hi
                  refine srel_ite (fun hmax => ?_) (fun hmax => ?_)
                  · exact srel_bind (R := fun _ _ _ => False) (srel_rpanic (by trivial) (by trivial)) fun _ _ _ _ h => h.elim
                  · refine srel_bind (srel_typeInfo elem) fun ρ7 l7 i i' hi => ?_
                    obtain ⟨rfl, _⟩ := hi
                    refine srel_ite (fun hcap => ?_) (fun hcap => ?_)
                    · exact srel_bind (R := fun _ _ _ => False) (srel_iteT (c := (true = true)) rfl (srel_rpanic (by trivial) (by trivial))) fun _ _ _ _ h => h.elim
                    · refine srel_bind (R := fun _ a b => a = b) (.choose _ fun z => .pure rfl) fun ρ8 l8 nc nc' hnc => ?_
                      subst hnc
                      refine srel_bind (srel_typeInfo elem) fun ρ9 l9 i i' hi => ?_
                      obtain ⟨rfl, _⟩ := hi
                      refine srel_bind (srel_askRoom _) fun ρ10 l10 _ _ _ => ?_
                      have hle := l2.trans (l2'.trans (l3.trans (l4.trans (l5.trans (l6.trans (l7.trans (l8.trans (l9.trans l10))))))))
                      refine srel_bind (srel_firstCells m _ (hv2.mono hle) fun e => rfl) fun ρ11 l11 old old' hold => ?_
                      refine srel_bind (srel_zerosNew hz nn m _ _) fun ρ12 l12 new new' hnew => ?_
                      refine srel_bind (srel_zeroValue hz) fun ρ13 l13 z z' hzz => ?_
                      refine srel_map (srel_newRow elem ((((hold.mono l12).mono l13).append (hnew.1.mono l13)).append ?_)) fun ρ14 l14 a b hab => .slice _ _ hab
                      unfold Builtin.zeroCells
                      have := hzz.1.cells
                      rw [← this.1]
                      exact this.repeated _ _
          | _ => exact .halt _ _
        | _ => exact .halt _ _
end
end Go.Proofs.Ytkodpijedinanaa.Sim

namespace Go.Proofs.Ytkodpijedinanaa.Sim
open Go
set_option linter.unusedVariables false
set_option linter.unusedSimpArgs false

section
variable {P : Program} {ρ : Ren}
/-- Whether two addresses may be one. -/
def lapP (a b : Addr) : Sem Bool := do
  let fa ← frozen a
  let fb ← frozen b
  if a.block != b.block && fa && fb then unsupported .addressObserved
  else if a.block != b.block then do
    noView a
    noView b
    mayBeOne a b
  else pure false
def strB (w : World) (a : Addr) : Bool := w.frozen? a || (match w.shape? a.block with
  | some (_, n) => w.frozen? { block := a.block, off := n }
  | none => false)
def noneB (w : World) (a : Addr) : Bool := match w.shape? a.block with
  | some (_, 0) => true
  | _ => false
def oneB (w : World) (a b : Addr) : Bool := (strB w a && strB w b) || (strB w a && noneB w a) || (strB w b && noneB w b)
theorem run_stringish (w : World) (a : Addr) : (stringish a).run P w = .ok (strB w a) w ∧ ∀ es, (stringish a).runT P w es = (.ok (strB w a) w, es) := by
  unfold stringish frozen shape strB
  constructor
  · cases hf : w.frozen? a <;> cases hs : w.shape? a.block <;> simp [Bind.bind, Sem.bind, Sem.run, hf, hs, pure]
  · intro es
    cases hf : w.frozen? a <;> cases hs : w.shape? a.block <;> simp [-Sem.runT_eq, Bind.bind, Sem.bind, Sem.runT, hf, hs, pure]
theorem run_mayBeOne (w : World) (a b : Addr) : (mayBeOne a b).run P w = .ok (oneB w a b) w ∧ ∀ es, (mayBeOne a b).runT P w es = (.ok (oneB w a b) w, es) := by
  have key : ∀ es, (mayBeOne a b).runT P w es = (.ok (oneB w a b) w, es) := fun es => by
    unfold mayBeOne
    show ((stringish a).bind fun sa => (stringish b).bind fun sb => (shape a.block).bind _).runT P w es = _
    rw [runT_bind, (run_stringish w a).2]
    dsimp only
    rw [runT_bind, (run_stringish w b).2]
    rfl
  refine ⟨?_, key⟩
  have := Sem.runT_fst P (mayBeOne a b) w #[]
  rw [key] at this
  exact this.symm
theorem run_noView {w : World} {a : Addr} {o : Obj} (h : w.heap[a.block]? = some o) (hv : viewO o = none) : (noView a).run P w = .ok () w ∧ ∀ es : Array Event, (noView a).runT P w es = (.ok () w, es ++ (if isRowO o then [] else [⟨.obj a.block, false, o.isChan⟩] : List Event).toArray) := by
  unfold noView
  constructor
  · show ((viewAt a.block).bind _).run P w = _
    rw [run_bind1, (run_viewAt h).1, hv]
    rfl
  · intro es
    show ((viewAt a.block).bind _).runT P w es = _
    rw [runT_bind, (run_viewAt h).2, hv]
    rfl
theorem run_noView_inv {w w1 : World} {a : Addr} (h : (noView a).run P w = .ok () w1) : w1 = w ∧ ∃ o, w.heap[a.block]? = some o ∧ viewO o = none := by
  unfold noView at h
  replace h : ((viewAt a.block).bind fun x => if x.isSome then unsupported (.unsafePointer "memory seen as another type") else pure ()).run P w = .ok () w1 := h
  rw [run_bind1] at h
  cases ho : w.heap[a.block]? with
  | none => rw [run_viewAt_none ho] at h; cases h
  | some o =>
    rw [(run_viewAt ho).1] at h
    dsimp only at h
    cases hv : viewO o with
    | none =>
      rw [hv] at h
      simp [pure, Sem.run] at h
      exact ⟨h.symm, o, rfl, hv⟩
    | some x =>
      rw [hv] at h
      simp [unsupported, Sem.run] at h
theorem soft_noView {w w1 : World} {a : Addr} {x : Halt} (h : (noView a).run P w = .halt x w1) : softB x = true := by
  unfold noView at h
  replace h : ((viewAt a.block).bind fun x => if x.isSome then unsupported (.unsafePointer "memory seen as another type") else pure ()).run P w = .halt x w1 := h
  rw [run_bind1] at h
  cases ho : w.heap[a.block]? with
  | none => rw [run_viewAt_none ho] at h; cases h; rfl
  | some o =>
    rw [(run_viewAt ho).1] at h
    dsimp only at h
    cases hv : viewO o with
    | none =>
      rw [hv] at h
      simp [pure, Sem.run] at h
    | some y =>
      rw [hv] at h
      simp [unsupported, Sem.run] at h
      rw [← h.1]; rfl
/-- When it comes to an end, and which. -/
theorem run_lapP_ok {w : World} {a b : Addr} {oa ob : Obj} (ha : w.heap[a.block]? = some oa) (hb : w.heap[b.block]? = some ob) (hne : a.block ≠ b.block) (hf : (w.frozen? a && w.frozen? b) = false) (va : viewO oa = none) (vb : viewO ob = none) :
    (lapP a b).run P w = .ok (oneB w a b) w ∧ ∀ es : Array Event, (lapP a b).runT P w es = (.ok (oneB w a b) w, es ++ ((if isRowO oa then [] else [⟨.obj a.block, false, oa.isChan⟩]) ++ (if isRowO ob then [] else [⟨.obj b.block, false, ob.isChan⟩]) : List Event).toArray) := by
  have hb' : (a.block != b.block) = true := by simpa using hne
  have key : ∀ es : Array Event, (lapP a b).runT P w es = (.ok (oneB w a b) w, es ++ ((if isRowO oa then [] else [⟨.obj a.block, false, oa.isChan⟩]) ++ (if isRowO ob then [] else [⟨.obj b.block, false, ob.isChan⟩]) : List Event).toArray) := fun es => by
    unfold lapP
    show ((frozen a).bind fun fa => (frozen b).bind fun fb => _).runT P w es = _
    simp only [frozen, Sem.bind, Sem.runT]
    rw [hb', Bool.true_and, hf]
    simp only [Bool.false_eq_true, if_false, if_true]
    show ((noView a).bind fun _ => (noView b).bind fun _ => mayBeOne a b).runT P w es = _
    rw [runT_bind, (run_noView ha va).2]
    dsimp only
    rw [runT_bind, (run_noView hb vb).2]
    dsimp only
    rw [(run_mayBeOne w a b).2]
    congr 1
    rw [Array.append_assoc]
    congr 1
    simp
  refine ⟨?_, key⟩
  have := Sem.runT_fst P (lapP a b) w #[]
  rw [key] at this
  exact this.symm
theorem run_lapP_same {w : World} {a b : Addr} (hne : a.block = b.block) : (lapP a b).run P w = .ok false w ∧ ∀ es : Array Event, (lapP a b).runT P w es = (.ok false w, es) := by
  have hb' : (a.block != b.block) = false := by simpa using hne
  have key : ∀ es : Array Event, (lapP a b).runT P w es = (.ok false w, es) := fun es => by
    unfold lapP
    show ((frozen a).bind fun fa => (frozen b).bind fun fb => _).runT P w es = _
    simp only [frozen, Sem.bind, Sem.runT]
    rw [hb']
    rfl
  refine ⟨?_, key⟩
  have := Sem.runT_fst P (lapP a b) w #[]
  rw [key] at this
  exact this.symm
theorem run_lapP_inv {w : World} {a b : Addr} (hne : a.block ≠ b.block) {x : Bool} {w1 : World} (h : (lapP a b).run P w = .ok x w1) :
    w1 = w ∧ x = oneB w a b ∧ ∃ oa ob, w.heap[a.block]? = some oa ∧ w.heap[b.block]? = some ob ∧ (w.frozen? a && w.frozen? b) = false ∧ viewO oa = none ∧ viewO ob = none := by
  have hb' : (a.block != b.block) = true := by simpa using hne
  unfold lapP at h
  replace h : ((frozen a).bind fun fa => (frozen b).bind fun fb => if a.block != b.block && fa && fb then unsupported .addressObserved else if a.block != b.block then (noView a).bind fun _ => (noView b).bind fun _ => mayBeOne a b else pure false).run P w = .ok x w1 := h
  simp only [frozen, Sem.bind, Sem.run] at h
  rw [hb', Bool.true_and] at h
  cases hf : (w.frozen? a && w.frozen? b) with
  | true => rw [hf] at h; simp [unsupported, Sem.run] at h
  | false =>
    rw [hf] at h
    simp only [Bool.false_eq_true, if_false, if_true] at h
    rw [run_bind1] at h
    cases h1 : (noView a).run P w with
    | halt y w2 => rw [h1] at h; cases h
    | ok u w2 =>
      rw [h1] at h
      obtain ⟨rfl, oa, q1, q2⟩ := run_noView_inv h1
      dsimp only at h
      rw [run_bind1] at h
      cases h2 : (noView b).run P w2 with
      | halt y w3 => rw [h2] at h; cases h
      | ok u w3 =>
        rw [h2] at h
        obtain ⟨rfl, ob, q3, q4⟩ := run_noView_inv h2
        dsimp only at h
        rw [(run_mayBeOne w3 a b).1] at h
        simp only [Result.ok.injEq] at h
        exact ⟨h.2.symm, h.1.symm, oa, ob, q1, q3, rfl, q2, q4⟩
theorem soft_lapP (a b : Addr) : SoftS P (lapP a b) := fun w x w1 h => by
  unfold lapP at h
  replace h : ((frozen a).bind fun fa => (frozen b).bind fun fb => if a.block != b.block && fa && fb then unsupported .addressObserved else if a.block != b.block then (noView a).bind fun _ => (noView b).bind fun _ => mayBeOne a b else pure false).run P w = .halt x w1 := h
  simp only [frozen, Sem.bind, Sem.run] at h
  split at h
  · simp [unsupported, Sem.run] at h
    rw [← h.1]; rfl
  · split at h
    · rw [run_bind1] at h
      cases h1 : (noView a).run P w with
      | halt y w2 => rw [h1] at h; cases h; exact soft_noView h1
      | ok u w2 =>
        rw [h1] at h
        dsimp only at h
        rw [run_bind1] at h
        cases h2 : (noView b).run P w2 with
        | halt y w3 => rw [h2] at h; cases h; exact soft_noView h2
        | ok u w3 =>
          rw [h2] at h
          dsimp only at h
          rw [(run_mayBeOne w3 a b).1] at h
          cases h
    · simp [pure, Sem.run] at h
theorem looks_lapP (a b : Addr) : Looks P (lapP a b) := fun w x w1 h => by
  have hfr : ∀ (w w' : World) (a : Addr), w'.heap = w.heap → w'.frozen? a = w.frozen? a := fun w w' a e => by unfold World.frozen?; rw [e]
  have hsh : ∀ (w w' : World) (r : Nat), w'.heap = w.heap → w'.shape? r = w.shape? r := fun w w' r e => by unfold World.shape?; rw [e]
  by_cases hne : a.block = b.block
  · rw [(run_lapP_same hne).1] at h
    cases h
    exact ⟨rfl, fun w' _ => (run_lapP_same hne).1⟩
  · obtain ⟨rfl, rfl, oa, ob, h1, h2, h3, h4, h5⟩ := run_lapP_inv hne h
    refine ⟨rfl, fun w' e => ?_⟩
    have := (run_lapP_ok (P := P) (w := w') (a := a) (b := b) (oa := oa) (ob := ob) (by rw [e]; exact h1) (by rw [e]; exact h2) hne (by rw [hfr w1 w' a e, hfr w1 w' b e]; exact h3) h4 h5).1
    rw [this]
    congr 1
    unfold oneB strB noneB
    rw [hfr w1 w' a e, hfr w1 w' b e, hsh w1 w' _ e, hsh w1 w' _ e]
    congr 2
    all_goals first | rfl | (split <;> simp [hfr w1 w' _ e])
/-- What is the case of a matched place. -/
theorem strB_own {ρ : Ren} {o o' : Obj} {w W : World} {a b : Addr} (h1 : w.heap[a.block]? = some o) (h2 : W.heap[b.block]? = some o') (h : ORel ρ o o') (hv : viewO o = none) :
    (strB w a = true → w.frozen? a = true ∧ noneB w a = false) ∧ W.frozen? b = false ∧ strB W b = false := by
  cases h with
  | opq c e z => cases hv
  | number l hl => simp [strB, noneB, World.frozen?, World.shape?, h1, h2]
  | chan => simp [strB, noneB, World.frozen?, World.shape?, h1, h2]
  | @cells c d e z z' hr hz hz' =>
    have hn : ∀ i : Nat, (decide (z'.1 ≤ i) && decide (i < z'.2)) = false := fun i => by
      have := hz' i
      cases hq : (decide (z'.1 ≤ i) && decide (i < z'.2)) with
      | false => rfl
      | true => simp only [Bool.and_eq_true, decide_eq_true_eq] at hq; exact absurd hq this
    refine ⟨fun hs => ?_, ?_, ?_⟩
    · simp only [strB, noneB, World.frozen?, World.shape?, h1] at hs ⊢
      rcases hz with rfl | rfl
      · simp at hs
      · simp only [Nat.zero_le, decide_true, Bool.true_and, Nat.lt_irrefl, decide_false, Bool.or_false, decide_eq_true_eq] at hs
        refine ⟨by simpa using hs, ?_⟩
        split
        · rename_i heq
          simp only [Option.some.injEq, Prod.mk.injEq] at heq
          omega
        · rfl
    · simp only [World.frozen?, h2]; exact hn _
    · simp only [strB, World.frozen?, World.shape?, h2]; rw [hn, hn]; rfl
theorem same_lapP {a b a' b' : Addr} (ha : ARel ρ a a') (hb : ARel ρ b b') : Same P ρ (fun x y => x = false ∧ y = false ∧ (a.block = b.block ↔ a'.block = b'.block)) (lapP a b) (lapP a' b') := fun w W x w1 hw h => by
  have hiff : a.block = b.block ↔ a'.block = b'.block := ⟨fun e => hw.fn _ _ _ (e ▸ ha.1) hb.1, fun e => hw.inj _ _ _ ha.1 (e ▸ hb.1)⟩
  by_cases hne : a.block = b.block
  · rw [(run_lapP_same hne).1] at h
    cases h
    exact ⟨false, [], fun es => by rw [(run_lapP_same (hiff.1 hne)).2]; simp, fun e he => (by cases he), rfl, rfl, hiff⟩
  · obtain ⟨rfl, rfl, oa, ob, h1, h2, h3, h4, h5⟩ := run_lapP_inv hne h
    obtain ⟨qa, qa', p1, p2, p3⟩ := hw.dom _ _ ha.1
    obtain ⟨qb, qb', r1, r2, r3⟩ := hw.dom _ _ hb.1
    rw [h1] at p1; cases p1
    rw [h2] at r1; cases r1
    obtain ⟨s1, s2, s3⟩ := strB_own h1 p2 p3 h4
    obtain ⟨t1, t2, t3⟩ := strB_own h2 r2 r3 h5
    have va : viewO qa' = none := by cases p3 <;> rfl
    have vb : viewO qb' = none := by cases r3 <;> rfl
    have hone' : oneB W a' b' = false := by unfold oneB; rw [s3, t3]; rfl
    have hone : oneB w1 a b = false := by
      unfold oneB
      cases e1 : strB w1 a with
      | false =>
        cases e2 : strB w1 b with
        | false => rfl
        | true => simp [(t1 e2).2]
      | true =>
        cases e2 : strB w1 b with
        | false => simp [(s1 e1).2]
        | true => rw [(s1 e1).1, (t1 e2).1] at h3; cases h3
    refine ⟨false, (if isRowO qa' then [] else [⟨.obj a'.block, false, qa'.isChan⟩]) ++ (if isRowO qb' then [] else [⟨.obj b'.block, false, qb'.isChan⟩]), fun es => ?_, ?_, hone, rfl, hiff⟩
    · rw [(run_lapP_ok p2 r2 (fun e => hne (hiff.2 e)) (by rw [s2]; rfl) va vb).2, hone']
    · intro e he
      rcases List.mem_append.1 he with he | he
      · exact objEv_one qa' ha.1 e he
      · exact objEv_one qb' hb.1 e he
def lapEnd (r : Value) : Bool → Sem Value := fun z => if z then (choose (.extern "sameAddr.stringBytes" 2)).bind fun q => .pure (.bool (q == 1)) else .pure r
theorem lap_prog (a b : Addr) (r : Value) : (do
      let fa ← frozen a
      let fb ← frozen b
      if (a.block != b.block && fa && fb) = true then unsupported Unsupported.addressObserved
      else
        have jp : Unit → Sem Value := fun _ => pure r
        if (a.block != b.block) = true then do
          noView a
          noView b
          let z ← mayBeOne a b
          if z = true then do
            let q ← choose (Question.extern "sameAddr.stringBytes" 2)
            pure (Value.bool (q == 1))
          else jp ()
        else jp ()) = (lapP a b).bind (lapEnd r) := by
  unfold lapP
  show (frozen a).bind _ = ((frozen a).bind _).bind _
  rw [sem_assoc]
  congr 1
  funext fa
  show (frozen b).bind _ = ((frozen b).bind _).bind _
  rw [sem_assoc]
  congr 1
  funext fb
  split
  · rfl
  · split
    · show (noView a).bind _ = ((noView a).bind _).bind _
      rw [sem_assoc]
      congr 1
      funext _
      show (noView b).bind _ = ((noView b).bind _).bind _
      rw [sem_assoc]
      congr 1
    · rfl
theorem srel_lap {a b a' b' : Addr} (ha : ARel ρ a a') (hb : ARel ρ b b') (n1 n2 m : Nat) :
    SemRel P VRel ρ ((lapP a b).bind (lapEnd (.bool (a.block == b.block && decide (a.off < b.off + n2 * m) && decide (b.off < a.off + n1 * m))))) ((lapP a' b').bind (lapEnd (.bool (a'.block == b'.block && decide (a'.off < b'.off + n2 * m) && decide (b'.off < a'.off + n1 * m))))) :=
  .looks (looks_lapP a b) (soft_lapP a b) (same_lapP ha hb) fun x y ⟨hx, hy, hiff⟩ => by
    subst hx; subst hy
    have e : (a.block == b.block) = (a'.block == b'.block) := by
      rw [Bool.eq_iff_iff, beq_iff_eq, beq_iff_eq]; exact hiff
    unfold lapEnd
    rw [e, ha.2.1, hb.2.1]
    exact .pure (.bool _)
theorem srel_overlaps (ps rs : Array TypeId) {c d : Array Value} (h : RowRel ρ c d) : SemRel P VRel ρ (Extern.SlicesOverlaps.overlaps ps rs c) (Extern.SlicesOverlaps.overlaps ps rs d) := by
  have start : ∀ (la lb : Nat) (p q p' q' : Option Addr), (∀ ρ2 m, Ren.le ρ ρ2 → SemRel P VRel ρ2 (match (generalizing := false) p, q with
        | some a, some b => if la = 0 ∨ lb = 0 ∨ m = 0 then pure (Value.bool false) else do
            let fa ← frozen a
            let fb ← frozen b
            if (a.block != b.block && fa && fb) = true then unsupported Unsupported.addressObserved
            else
              have jp : Unit → Sem Value := fun _ => pure (.bool (a.block == b.block && decide (a.off < b.off + lb * m) && decide (b.off < a.off + la * m)))
              if (a.block != b.block) = true then do
                noView a
                noView b
                let z ← mayBeOne a b
                if z = true then do
                  let q ← choose (Question.extern "sameAddr.stringBytes" 2)
                  pure (Value.bool (q == 1))
                else jp ()
              else jp ()
        | _, _ => pure (Value.bool false)) (match (generalizing := false) p', q' with
        | some a, some b => if la = 0 ∨ lb = 0 ∨ m = 0 then pure (Value.bool false) else do
            let fa ← frozen a
            let fb ← frozen b
            if (a.block != b.block && fa && fb) = true then unsupported Unsupported.addressObserved
            else
              have jp : Unit → Sem Value := fun _ => pure (.bool (a.block == b.block && decide (a.off < b.off + lb * m) && decide (b.off < a.off + la * m)))
              if (a.block != b.block) = true then do
                noView a
                noView b
                let z ← mayBeOne a b
                if z = true then do
                  let q ← choose (Question.extern "sameAddr.stringBytes" 2)
                  pure (Value.bool (q == 1))
                else jp ()
              else jp ()
        | _, _ => pure (Value.bool false))) → ∀ ca cb, SemRel P VRel ρ (Extern.SlicesOverlaps.overlaps ps rs #[.slice p la ca, .slice q lb cb]) (Extern.SlicesOverlaps.overlaps ps rs #[.slice p' la ca, .slice q' lb cb]) := fun la lb p q p' q' hk ca cb => by
    unfold Extern.SlicesOverlaps.overlaps
    cases hp : ps[0]? with
    | none => exact .halt _ _
    | some t =>
      refine srel_bind (srel_underlying t) fun ρ1 l1 a b hab => ?_
      obtain ⟨rfl, hu⟩ := hab
      cases a <;> first
        | exact .halt _ _
        | skip
      rename_i elem
      refine srel_bind (srel_sizeOf elem) fun ρ2 l2 m m' hm => ?_
      obtain ⟨rfl, _⟩ := hm
      exact hk ρ2 m (l1.trans l2)
  have two : ∀ x y x' y', VRel ρ x x' → VRel ρ y y' → SemRel P VRel ρ (Extern.SlicesOverlaps.overlaps ps rs #[x, y]) (Extern.SlicesOverlaps.overlaps ps rs #[x', y']) := fun x y x' y' h k => by
    cases h with
    | slice n c ha =>
      cases k with
      | slice n' c' hb =>
        refine start _ _ _ _ _ _ (fun ρ2 m l2 => ?_) _ _
        refine srel_ite (fun _ => .pure (.bool _)) fun _ => ?_
        have := srel_lap (P := P) (ha.mono l2) (hb.mono l2) n n' m
        rw [← lap_prog, ← lap_prog] at this
        exact this
      | sliceNil n' c' => exact start _ _ _ _ _ _ (fun ρ2 m l2 => .pure (.bool _)) _ _
      | sliceE p q => exact start _ _ _ _ _ _ (fun ρ2 m l2 => srel_iteT (.inr (.inl rfl)) (.pure (.bool _))) _ _
      | _ => exact .halt _ _
    | sliceNil n c =>
      cases k with
      | slice n' c' hb => exact start _ _ _ _ _ _ (fun ρ2 m l2 => .pure (.bool _)) _ _
      | sliceNil n' c' => exact start _ _ _ _ _ _ (fun ρ2 m l2 => .pure (.bool _)) _ _
      | sliceE p q => exact start _ _ _ _ _ _ (fun ρ2 m l2 => .pure (.bool _)) _ _
      | _ => exact .halt _ _
    | sliceE p q =>
      cases k with
      | slice n' c' hb => exact start _ _ _ _ _ _ (fun ρ2 m l2 => srel_iteT (.inl rfl) (.pure (.bool _))) _ _
      | sliceNil n' c' => exact start _ _ _ _ _ _ (fun ρ2 m l2 => .pure (.bool _)) _ _
      | sliceE p q => exact start _ _ _ _ _ _ (fun ρ2 m l2 => srel_iteT (.inl rfl) (.pure (.bool _))) _ _
      | _ => exact .halt _ _
    | _ => exact .halt _ _
  obtain ⟨l⟩ := c
  obtain ⟨m⟩ := d
  have hl : l.length = m.length := by simpa using h.1
  match l, m, hl with
  | [x, y], [x', y'], _ => exact two x y x' y' (h.2 0 _ _ rfl rfl) (h.2 1 _ _ rfl rfl)
  | [], [], _ => exact .halt _ _
  | [x], [x'], _ => unfold Extern.SlicesOverlaps.overlaps; exact .halt _ _
  | x :: y :: z :: l, x' :: y' :: z' :: m, _ => unfold Extern.SlicesOverlaps.overlaps; exact .halt _ _
end
end Go.Proofs.Ytkodpijedinanaa.Sim

namespace Go.Proofs.Ytkodpijedinanaa.Sim
open Go
set_option linter.unusedVariables false
set_option linter.unusedSimpArgs false

section
variable {P : Program} {ρ : Ren}
theorem srel_mapM {α β : Type} (f : α → Sem β) (hf : ∀ ρ a, SemRel P (fun _ x y => x = y) ρ (f a) (f a)) (l : List α) : SemRel P (fun _ x y => x = y) ρ (l.mapM f) (l.mapM f) := by
  induction l generalizing ρ with
  | nil => exact .pure rfl
  | cons a l ih =>
    rw [List.mapM_cons]
    refine srel_bind (hf ρ a) fun ρ1 l1 x y hxy => ?_
    subst hxy
    exact srel_map ih fun ρ2 l2 x y hxy => by rw [hxy]
theorem srel_build (t : TypeId) {c d : Array (Nat × Value)} (h : PartsRel ρ c d) (hz : ZeroOk P t) (hs : ∃ fs, P.underlying t = some (.struct fs)) : SemRel P VRel ρ (Instr.build t c) (Instr.build t d) := by
  unfold Instr.build
  refine srel_bind (srel_zeroValue hz) fun ρ1 l1 z z' hzz => ?_
  refine srel_bind (srel_underlying t) fun ρ2 l2 a b hab => ?_
  obtain ⟨rfl, hu⟩ := hab
  obtain ⟨fs, hfs⟩ := hs
  rw [hfs] at hu
  cases hu
  have hm : SemRel P (fun _ x y => x = y) ρ2 (fs.mapM fun f => do pure (f.offset, ← sizeOf f.type)) (fs.mapM fun f => do pure (f.offset, ← sizeOf f.type)) := by
    rw [Array.mapM_eq_mapM_toList]
    exact srel_map (srel_mapM _ (fun ρ f => srel_map (srel_sizeOf f.type) fun ρ1 l1 a b hab => by rw [hab.1]) _) fun ρ3 l3 x y hxy => by rw [hxy]
  refine srel_bind hm fun ρ3 l3 x y hxy => ?_
  subst hxy
  have hp := h.mono (l1.trans (l2.trans l3))
  have hzc := (hzz.1.mono (l2.trans l3)).cells
  cases hf : Instr.fill (x[·]?) z.cells c.toList with
  | none => exact .halt _ _
  | some e =>
    obtain ⟨f, hf', hef⟩ := fill_rel (x[·]?) c.toList d.toList _ _ hzc (by simpa using hp.1) (fun i x y a b => hp.2 i x y (by simpa using a) (by simpa using b)) e hf
    rw [hf']
    exact .pure (.agg hef.1 hef.2)
theorem srel_convert {s t : TypeId} {k : IntKind} (ht : P.underlying t = some (.int k)) (hs : ∃ k', P.underlying s = some (.int k')) {v w : Value} (h : VRel ρ v w) : SemRel P VRel ρ (convert s t v) (convert s t w) := by
  unfold convert
  refine srel_bind (srel_underlying s) fun ρ1 l1 a b hab => ?_
  obtain ⟨rfl, hu⟩ := hab
  obtain ⟨k', hk'⟩ := hs
  rw [hk'] at hu
  cases hu
  refine srel_bind (srel_underlying t) fun ρ2 l2 a b hab => ?_
  obtain ⟨rfl, hu⟩ := hab
  rw [ht] at hu
  cases hu
  cases (h.mono (l1.trans l2)) <;> first
    | exact .halt _ _
    | exact .pure (.int _ _)
theorem srel_makeSlice (t : TypeId) {v w x y : Value} (h : VRel ρ v w) (k : VRel ρ x y) (hz : ∀ e, P.underlying t = some (.slice e) → ZeroOk P e) : SemRel P VRel ρ (Instr.makeSlice t v x) (Instr.makeSlice t w y) := by
  unfold Instr.makeSlice
  refine srel_bind (srel_underlying t) fun ρ1 l1 a b hab => ?_
  obtain ⟨rfl, hu⟩ := hab
  cases a with
  | slice elem =>
    have hz := hz elem hu
    refine srel_bind (srel_asInt (h.mono l1)) fun ρ2 l2 n n' hn => ?_
    subst hn
    refine srel_bind (srel_asInt (k.mono (l1.trans l2))) fun ρ3 l3 m m' hm => ?_
    subst hm
    refine srel_bind (srel_typeInfo elem) fun ρ4 l4 i i' hi => ?_
    obtain ⟨rfl, _⟩ := hi
    dsimp only
    split
    · split
      · exact srel_bind (R := fun _ _ _ => False) (srel_rpanic (by trivial) (by trivial)) fun _ _ _ _ h => h.elim
      · split
        · exact srel_bind (R := fun _ _ _ => False) (srel_rpanic (by trivial) (by trivial)) fun _ _ _ _ h => h.elim
        · refine srel_bind (R := fun _ a b => a = b) (.choose _ fun n => .pure rfl) fun ρ5 l5 a b hab => ?_
          subst hab
          exact srel_bind (R := fun _ _ _ => False) (srel_rpanic (e := .error _) (e' := .error _) trivial trivial) fun _ _ _ _ h => h.elim
    · refine srel_bind (srel_askRoom _) fun ρ5 l5 _ _ _ => ?_
      refine srel_bind (srel_sizeOf elem) fun ρ6 l6 sz sz' hsz => ?_
      obtain ⟨rfl, _⟩ := hsz
      have JP : ∀ ρ7, Ren.le ρ6 ρ7 → ∀ zero zero' : Array Value, RowRel ρ7 zero zero' → SemRel P VRel ρ7 (do
          let a ← newRow elem ((Array.range ((IntKind.i64.wrap m).toNat * sz)).map (zero[· % zero.size]!))
          pure (.slice (some a) (IntKind.i64.wrap n).toNat (IntKind.i64.wrap m).toNat)) (do
          let a ← newRow elem ((Array.range ((IntKind.i64.wrap m).toNat * sz)).map (zero'[· % zero'.size]!))
          pure (.slice (some a) (IntKind.i64.wrap n).toNat (IntKind.i64.wrap m).toNat)) := fun ρ7 l7 zero zero' hzz => by
        have hr := hzz.repeated ((IntKind.i64.wrap m).toNat * sz) fun x => x % zero.size
        rw [show (Array.map (fun x => zero'[x % zero.size]!) (Array.range ((IntKind.i64.wrap m).toNat * sz))) = Array.map (fun x => zero'[x % zero'.size]!) (Array.range ((IntKind.i64.wrap m).toNat * sz)) by rw [hzz.1]] at hr
        exact srel_map (srel_newRow elem hr) fun ρ8 l8 a b hab => .slice _ _ hab
      split
      · exact JP ρ6 (Ren.le.refl _) _ _ (RowRel.nil _)
      · refine srel_bind (srel_zeroValue hz) fun ρ7 l7 a b hab => ?_
        exact JP ρ7 l7 _ _ hab.1.cells
  | _ => exact .halt _ _
theorem srel_makeChan (t : TypeId) {v w : Value} (h : VRel ρ v w) : SemRel P VRel ρ (Instr.makeChan t v) (Instr.makeChan t w) := by
  unfold Instr.makeChan
  refine srel_bind (srel_asInt h) fun ρ1 l1 n n' hn => ?_
  subst hn
  refine srel_bind (srel_underlying t) fun ρ2 l2 a b hab => ?_
  obtain ⟨rfl, hu⟩ := hab
  cases a with
  | chan dir elem =>
    refine srel_bind (srel_typeInfo elem) fun ρ3 l3 i i' hi => ?_
    obtain ⟨rfl, _⟩ := hi
    split
    · exact srel_bind (R := fun _ _ _ => False) (srel_rpanic (by trivial) (by trivial)) fun _ _ _ _ h => h.elim
    · exact .new .chan fun r s _ _ => .pure (.chan (.inr ⟨rfl, rfl⟩))
  | _ => exact .halt _ _
theorem srel_fieldAt (s : TypeId) (f : Nat) {v w : Value} (h : VRel ρ v w) (hs : ∀ fs fl, P.underlying s = some (.struct fs) → fs[f]? = some fl → ∀ i, P.info? fl.type = some i → i.size ≠ 0) : SemRel P VRel ρ (Instr.fieldAt s v f) (Instr.fieldAt s w f) := by
  unfold Instr.fieldAt
  refine srel_bind (srel_underlying s) fun ρ1 l1 a b hab => ?_
  obtain ⟨rfl, hu⟩ := hab
  cases a with
  | struct fs =>
    dsimp only
    cases hf : fs[f]? with
    | none => exact .halt _ _
    | some fl =>
      have hs := hs fs fl hu hf
      refine srel_bind (srel_sureAddr (h.mono l1)) fun ρ2 l2 x y hxy => ?_
      refine srel_map (R := ARel) ?_ fun ρ3 l3 a b hab => .ptr hab
      unfold fieldPlace
      refine srel_bind (srel_sizeOf fl.type) fun ρ3 l3 n n' hn => ?_
      obtain ⟨rfl, i, hi, rfl⟩ := hn
      rw [if_neg (hs i hi), if_neg (hs i hi)]
      exact .pure ((hxy.mono l3).add _)
  | _ => exact .halt _ _
/-- What a borne operation comes to. -/
inductive NRel (ρ : Ren) : Next → Next → Prop
  | value {v w : Value} : VRel ρ v w → NRel ρ (.value v) (.value w)
  | skip : NRel ρ .skip .skip
  | enter (f : FuncId) {c d : Array Value} : f ∈ Fns.l → RowRel ρ c d → NRel ρ (.enter f c) (.enter f d)
def zeroB (P : Program) (t : TypeId) : Bool := match (P.info? t).bind (·.zero) with
  | some z => flatN 4 z
  | none => true
theorem zero_ok {t : TypeId} (h : zeroB P t = true) : ZeroOk P t := fun i z hi hz => by
  unfold zeroB at h
  rw [hi, Option.bind_some, hz] at h
  exact h
def sliceZeroB (P : Program) (t : TypeId) : Bool := match P.underlying t with
  | some (.slice e) => zeroB P e
  | _ => true
def intB (P : Program) (t : TypeId) : Bool := match P.underlying t with
  | some (.int _) => true
  | _ => false
def okX : Operand → Bool
  | .tmp _ => true
  | .const v => flatN 4 v
  | .global _ => false
  | .func f => Fns.l.contains f
def fieldB (P : Program) (s : TypeId) (f : Nat) : Bool := match P.underlying s with
  | some (.struct fs) => match fs[f]? with
    | some fl => match P.info? fl.type with
      | some i => i.size != 0
      | none => true
    | none => true
  | _ => true
def okCall (P : Program) (c : Call) : Bool := c.args.all okX && match c.callee with
  | .value (.func f) => Fns.l.contains f || f == Fns.lap
  | .value f => okX f
  | .builtin .cap => (match c.argTypes[0]? with
    | some t => (match P.underlying t with
      | some (.slice _) => true
      | _ => false)
    | none => true)
  | .builtin .copy => true
  | .builtin .len => (match c.argTypes[0]? with
    | some t => (match P.underlying t with
      | some (.chan _ _) => false
      | _ => true)
    | none => true)
  | .builtin .append => (match c.argTypes[0]? with
    | some t => sliceZeroB P t
    | none => true)
  | .builtin .min => true
  | _ => false
def sliceB (P : Program) (t : TypeId) : Bool := match P.underlying t with
  | some (.slice _) => true
  | _ => false
def structB (P : Program) (t : TypeId) : Bool := match P.underlying t with
  | some (.struct _) => true
  | _ => false
def nilB : Operand → Bool
  | .const (.slice none _ _) => true
  | _ => false
/-- The operations that are borne. -/
def okOp (P : Program) (o : Op) : Bool := match o with
  | .move x | .assign x => okX x
  | .pick c a b => okX c && okX a && okX b
  | .alloc t => zeroB P t
  | .box _ x => okX x
  | .build t ps => ps.all (fun p => okX p.2) && zeroB P t && (match P.underlying t with
    | some (.struct _) => true
    | _ => false)
  | .buildSlice t _ ps => ps.all (fun p => okX p.2) && sliceZeroB P t
  | .load _ a => okX a
  | .store _ a x => okX a && okX x
  | .binOp op t x y _ => okX x && okX y && ((okBin op && intB P t && notCopyB P t) || ((op == .eql || op == .neq) && ((flatT P 4 t && structB P t && !P.eqGuardType P.depth t) || (nilB y && sliceB P t))))
  | .slice t x lo hi mx => okX x && lo.all okX && hi.all okX && mx.isNone && sliceB P t
  | .unOp .not _ x => okX x
  | .convert s t x => intB P s && intB P t && okX x
  | .makeFunc (.func f) xs ys => Fns.l.contains f && xs.all okX && ys.all okX
  | .makeChan _ x => okX x
  | .makeSlice t x y => sliceZeroB P t && okX x && okX y
  | .fieldAddr s x f => okX x && fieldB P s f
  | .indexAddr _ x y => okX x && okX y
  | .extract x _ => okX x
  | .call c => okCall P c
  | _ => false
end
end Go.Proofs.Ytkodpijedinanaa.Sim

namespace Go.Proofs.Ytkodpijedinanaa.Sim
open Go
set_option linter.unusedVariables false
set_option linter.unusedSimpArgs false

section
variable {P : Program} {ρ : Ren} {e e' : Operand → Value}
/-- The functions that may be come to have bodies. -/
structure FnsOk (P : Program) : Prop where
  l : ∀ f ∈ Fns.l, ∃ fn, P.funcs[f]? = some fn ∧ fn.body.isSome ∧ fn.name ≠ "runtime.NumGoroutine"
  lap : ∃ fn ps rs, P.funcs[Fns.lap]? = some fn ∧ fn.body.isNone = true ∧ (fn.name == "runtime.NumGoroutine") = false ∧ Extern.findNext fn = none ∧ Extern.find fn = some (Extern.SlicesOverlaps.overlaps ps rs)
theorem rows_map {c : Array Operand} (H : ∀ x, okX x = true → VRel ρ (e x) (e' x)) (hc : c.all okX = true) : RowRel ρ (c.map e) (c.map e') := by
  refine ⟨by simp, fun i v w hv hw => ?_⟩
  simp only [Array.getElem?_map, Option.map_eq_some_iff] at hv hw
  obtain ⟨x, hx, rfl⟩ := hv
  obtain ⟨y, hy, rfl⟩ := hw
  rw [hx] at hy
  cases hy
  obtain ⟨hi, rfl⟩ := Array.getElem?_eq_some_iff.1 hx
  rw [Array.all_eq_true] at hc
  exact H _ (hc i hi)
theorem parts_map {c : Array (Nat × Operand)} (H : ∀ x, okX x = true → VRel ρ (e x) (e' x)) (hc : c.all (fun p => okX p.2) = true) : PartsRel ρ (c.map fun (i, x) => (i, e x)) (c.map fun (i, x) => (i, e' x)) := by
  refine ⟨by simp, fun i v w hv hw => ?_⟩
  simp only [Array.getElem?_map, Option.map_eq_some_iff] at hv hw
  obtain ⟨x, hx, rfl⟩ := hv
  obtain ⟨y, hy, rfl⟩ := hw
  rw [hx] at hy
  cases hy
  obtain ⟨hi, rfl⟩ := Array.getElem?_eq_some_iff.1 hx
  rw [Array.all_eq_true] at hc
  exact ⟨rfl, H _ (hc i hi)⟩
theorem srel_value {s s' : Sem Value} (h : SemRel P VRel ρ s s') : SemRel P NRel ρ (do pure (.value (← s))) (do pure (.value (← s'))) := srel_map h fun _ _ _ _ h => .value h
theorem srel_unit {R : Ren → Unit → Unit → Prop} {s s' : Sem Unit} (h : SemRel P R ρ s s') : SemRel P NRel ρ (do s; pure .skip) (do s'; pure .skip) := srel_map h fun _ _ _ _ _ => .skip
theorem srel_callFunc (hF : FnsOk P) {f : FuncId} (hf : f ∈ Fns.l) {c d : Array Value} (h : RowRel ρ c d) : SemRel P NRel ρ (callFunc f c) (callFunc f d) := by
  obtain ⟨fn, h1, h2, h3⟩ := hF.l f hf
  unfold callFunc
  refine srel_bind srel_program fun ρ1 l1 p q hpq => ?_
  obtain ⟨rfl, rfl⟩ := hpq
  rw [h1]
  dsimp only
  have hb : fn.body.isNone = false := by cases hq : fn.body <;> simp_all
  have hn : (fn.name == "runtime.NumGoroutine") = false := by simpa using h3
  rw [hn, hb]
  exact .pure (.enter f hf (h.mono l1))
theorem srel_callLap (hF : FnsOk P) {c d : Array Value} (h : RowRel ρ c d) : SemRel P NRel ρ (callFunc Fns.lap c) (callFunc Fns.lap d) := by
  obtain ⟨fn, ps, rs, h1, h2, h3, h4, h5⟩ := hF.lap
  unfold callFunc
  refine srel_bind srel_program fun ρ1 l1 p q hpq => ?_
  obtain ⟨rfl, rfl⟩ := hpq
  rw [h1]
  dsimp only
  rw [h3, h2, h4, h5]
  exact .extern _ (srel_value (srel_overlaps ps rs (h.mono l1)))
/-- What is written is read as it is. -/
structure Evals (e : Operand → Value) : Prop where
  const : ∀ v, e (.const v) = v
  func : ∀ f, e (.func f) = .func (.func f) #[] #[]
theorem Act.evals (a : Act) : Evals a.eval := ⟨fun _ => rfl, fun _ => rfl⟩
theorem Frame.evals (a : Frame) : Evals a.eval := ⟨fun _ => rfl, fun _ => rfl⟩
theorem srel_call (hF : FnsOk P) {c : Call} (ty : TypeId) (hc : okCall P c = true) (C : Evals e) (C' : Evals e') (H : ∀ x, okX x = true → VRel ρ (e x) (e' x)) :
    SemRel P NRel ρ (do let d ← resolve e c ty; invoke d.target d.args) (do let d ← resolve e' c ty; invoke d.target d.args) := by
  unfold okCall at hc
  rw [Bool.and_eq_true] at hc
  obtain ⟨ha, hc⟩ := hc
  have hr := rows_map H ha
  unfold resolve
  cases hcal : c.callee with
  | value f =>
    rw [hcal] at hc
    have go : ∀ f, okX f = true → SemRel P NRel ρ (do let d ← resolve e { c with callee := .value f } ty; invoke d.target d.args) (do let d ← resolve e' { c with callee := .value f } ty; invoke d.target d.args) := fun f hc => by
      unfold resolve
      have hv := H f hc
      dsimp only
      generalize e f = v at hv
      generalize e' f = w at hv
      cases hv with
      | func g hg h1 h2 h3 h4 => exact srel_callFunc hF hg (RowRel.append (RowRel.append ⟨h1, h2⟩ hr) ⟨h3, h4⟩)
      | nilFunc => exact srel_rpanic (e := .nilDeref) (e' := .nilDeref) trivial trivial
      | _ => exact .halt _ _
    unfold resolve at go
    cases f with
    | func f =>
      dsimp only at hc
      rw [Bool.or_eq_true] at hc
      rcases hc with hc | hc
      · exact go (.func f) hc
      · obtain rfl : f = Fns.lap := by simpa using hc
        dsimp only
        rw [C.func, C'.func]
        exact srel_callLap hF (RowRel.append (RowRel.append (RowRel.nil _) hr) (RowRel.nil _))
    | tmp t => exact go _ hc
    | const v => exact go _ hc
    | global g => exact go _ hc
  | builtin b =>
    rw [hcal] at hc
    cases b with
    | len =>
      refine srel_value (srel_len _ _ hr fun t ht x y hu => ?_)
      dsimp only at hc
      rw [ht] at hc
      dsimp only at hc
      rw [hu] at hc
      cases hc
    | append =>
      dsimp only at hc
      have hz : ∀ t e, c.argTypes[0]? = some t → P.underlying t = some (.slice e) → ZeroOk P e := fun t y ht hu => by
        have := hc
        rw [ht] at this
        simp only [sliceZeroB, hu] at this
        exact zero_ok this
      by_cases hi : ∃ k t, c.argTypes[1]? = some t ∧ P.underlying t = some (.int k)
      · obtain ⟨k, hi⟩ := hi
        exact srel_value (srel_appendZ _ _ hr hi hz)
      · exact srel_value (srel_append _ _ hr (fun t ht k hu => hi ⟨k, t, ht, hu⟩) hz)
    | cap =>
      refine srel_value (srel_cap _ _ hr fun t ht => ?_)
      dsimp only at hc
      rw [ht] at hc
      dsimp only at hc
      split at hc
      · exact ⟨_, by assumption⟩
      · cases hc
    | copy => exact srel_value (srel_copy _ _ hr)
    | min => exact srel_value (srel_min _ _ hr)
    | _ => cases hc
  | invoke r n => rw [hcal] at hc; cases hc
theorem srel_guardIn {t : TypeId} {k : IntKind} (ht : P.underlying t = some (.int k)) (v w x y : Value) : SemRel P (fun _ (a b : Bool) => a = false ∧ b = false) ρ (Op.eqGuardIn Op.maxDepth t v x) (Op.eqGuardIn Op.maxDepth t w y) := by
  unfold Op.maxDepth Op.eqGuardIn
  refine srel_bind (srel_underlying t) fun ρ1 l1 a b hab => ?_
  obtain ⟨rfl, hu⟩ := hab
  rw [ht] at hu
  cases hu
  exact .pure ⟨rfl, rfl⟩
theorem srel_eqGuard (op : BinOp) {t : TypeId} {k : IntKind} (ht : P.underlying t = some (.int k)) (X Y : Operand) {v w x y : Value} (h : VRel ρ v w) (h' : VRel ρ x y) : SemRel P (fun _ _ _ => True) ρ (eqGuard op t X Y v x) (eqGuard op t X Y w y) := by
  unfold eqGuard
  have hg := srel_guardIn (P := P) (ρ := ρ) ht v w x y
  cases op <;> first
    | exact .pure trivial
    | skip
  all_goals (
    simp only [Bool.not_true, Bool.false_eq_true, if_false]
    cases h <;> cases h' <;> first
      | exact .pure trivial
      | (dsimp only
         cases X <;> cases Y <;> first
           | exact .pure trivial
           | (refine srel_bind hg fun ρ1 l1 a b hab => ?_
              obtain ⟨rfl, rfl⟩ := hab
              exact .pure trivial))
      | (dsimp only
         refine srel_bind srel_program fun ρ1 l1 p q hpq => ?_
         obtain ⟨rfl, rfl⟩ := hpq
         refine srel_bind srel_program fun ρ2 l2 p q hpq => ?_
         obtain ⟨rfl, rfl⟩ := hpq
         split
         · exact .pure trivial
         · refine srel_bind (srel_guardIn ht _ _ _ _) fun ρ1 l1 a b hab => ?_
           obtain ⟨rfl, rfl⟩ := hab
           exact .pure trivial))
theorem srel_guardFlat (op : BinOp) {t : TypeId} (X Y : Operand) {v w x y : Value} (h : VRel ρ v w) (h' : VRel ρ x y) (hg : P.eqGuardType P.depth t = false) {fs : Array Field} (hfs : P.underlying t = some (.struct fs)) : SemRel P (fun _ _ _ => True) ρ (eqGuard op t X Y v x) (eqGuard op t X Y w y) := by
  have hgn : SemRel P (fun _ (a b : Bool) => a = false ∧ b = false) ρ (Op.eqGuardIn Op.maxDepth t .nilIface .nilIface) (Op.eqGuardIn Op.maxDepth t .nilIface .nilIface) := by
    unfold Op.maxDepth Op.eqGuardIn
    refine srel_bind (srel_underlying t) fun ρ1 l1 a b hab => ?_
    obtain ⟨rfl, hu⟩ := hab
    rw [hfs] at hu
    cases hu
    exact .pure ⟨rfl, rfl⟩
  unfold eqGuard
  cases op <;> first
    | exact .pure trivial
    | skip
  all_goals (
    simp only [Bool.not_true, Bool.false_eq_true, if_false]
    cases h <;> cases h' <;> first
      | exact .pure trivial
      | (dsimp only
         cases X <;> cases Y <;> exact .pure trivial)
      | (dsimp only
         refine srel_bind srel_program fun ρ1 l1 p q hpq => ?_
         obtain ⟨rfl, rfl⟩ := hpq
         refine srel_bind srel_program fun ρ2 l2 p q hpq => ?_
         obtain ⟨rfl, rfl⟩ := hpq
         exact srel_iteT (by simp [hg]) (.pure trivial))
      | (dsimp only
         cases X <;> cases Y <;> first
           | exact .pure trivial
           | (refine srel_bind hgn fun ρ1 l1 a b hab => ?_
              obtain ⟨rfl, rfl⟩ := hab
              exact .pure trivial)))
theorem srel_guardNil (op : BinOp) {t : TypeId} (X Y : Operand) {v w : Value} (h : VRel ρ v w) (a b : Nat) : SemRel P (fun _ _ _ => True) ρ (eqGuard op t X Y v (.slice none a b)) (eqGuard op t X Y w (.slice none a b)) := by
  unfold eqGuard
  cases op <;> first
    | exact .pure trivial
    | (simp only [Bool.not_true, Bool.false_eq_true, if_false]
       cases h <;> exact .pure trivial)
theorem opt_map {lo : Option Operand} (H : ∀ x, okX x = true → VRel ρ (e x) (e' x)) (h : lo.all okX = true) : OptRel ρ (lo.map e) (lo.map e') := by
  cases lo with
  | none => exact .inl ⟨rfl, rfl⟩
  | some x => exact .inr ⟨_, _, rfl, rfl, H x h⟩
theorem srel_sliceAt (t : TypeId) {v w : Value} {low low' high high' : Option Value} (h : VRel ρ v w) (h1 : OptRel ρ low low') (h2 : OptRel ρ high high') (ht : ∃ e, P.underlying t = some (.slice e)) :
    SemRel P VRel ρ (Instr.sliceAt t v low high none) (Instr.sliceAt t w low' high' none) := by
  unfold Instr.sliceAt
  refine srel_bind (srel_underlying t) fun ρ1 l1 a b hab => ?_
  obtain ⟨rfl, hu⟩ := hab
  obtain ⟨e, he⟩ := ht
  rw [he] at hu
  cases hu
  exact srel_slice t (h.mono l1) (h1.mono l1) (h2.mono l1) ⟨e, he⟩
theorem int_of {t : TypeId} (h : intB P t = true) : ∃ k, P.underlying t = some (.int k) := by
  unfold intB at h
  split at h
  · exact ⟨_, by assumption⟩
  · cases h
theorem slice_zero {t : TypeId} (h : sliceZeroB P t = true) : ∀ x, P.underlying t = some (.slice x) → ZeroOk P x := fun x hx => by
  simp only [sliceZeroB, hx] at h
  exact zero_ok h
theorem srel_op (hF : FnsOk P) (hA : Above P ρ) {o : Oper} (ho : okOp P o.op = true) (C : Evals e) (C' : Evals e') (H : ∀ x, okX x = true → VRel ρ (e x) (e' x)) : SemRel P NRel ρ (execOp e o) (execOp e' o) := by
  unfold execOp
  unfold okOp at ho
  cases hop : o.op with
  | move x => rw [hop] at ho; exact .pure (.value (H x ho))
  | assign x => rw [hop] at ho; exact .pure (.value (H x ho))
  | pick c a b =>
    rw [hop] at ho
    simp only [Bool.and_eq_true] at ho
    refine srel_map (srel_asBool (H c ho.1.1)) fun ρ1 l1 x y hxy => ?_
    subst hxy
    split
    · exact .value ((H a ho.1.2).mono l1)
    · exact .value ((H b ho.2).mono l1)
  | alloc t => rw [hop] at ho; exact srel_value (srel_alloc t (zero_ok ho))
  | box t x => rw [hop] at ho; exact srel_value (srel_box t (H x ho))
  | build t ps =>
    rw [hop] at ho
    simp only [Bool.and_eq_true] at ho
    refine srel_value (srel_build t (parts_map H ho.1.1) (zero_ok ho.1.2) ?_)
    have := ho.2
    split at this
    · exact ⟨_, by assumption⟩
    · cases this
  | buildSlice t n ps =>
    rw [hop] at ho
    simp only [Bool.and_eq_true] at ho
    exact srel_value (srel_buildSlice t n (parts_map H ho.1) (slice_zero ho.2))
  | load t a => rw [hop] at ho; exact srel_value (srel_loadAt t (H a ho))
  | store t a x =>
    rw [hop] at ho
    simp only [Bool.and_eq_true] at ho
    exact srel_unit (srel_storeAt t (H a ho.1) (H x ho.2))
  | binOp op t x y z =>
    rw [hop] at ho
    simp only [Bool.and_eq_true, Bool.or_eq_true] at ho
    have hx := H x ho.1.1
    have hy := H y ho.1.2
    refine srel_value ?_
    rcases ho.2 with ⟨⟨q1, q2⟩, q3⟩ | ⟨q1, q2⟩
    · obtain ⟨k, hk⟩ := int_of q2
      refine srel_bindA hA (srel_eqGuard op hk x y hx hy) fun ρ1 l1 hA1 _ _ _ => ?_
      exact srel_binOp q1 hk (not_copy q3) hA1 (hx.mono l1) (hy.mono l1)
    · have hop' : op = .eql ∨ op = .neq := by simpa using q1
      rcases q2 with ⟨⟨q3, q4⟩, q5⟩ | ⟨q3, q4⟩
      · obtain ⟨fs, hfs⟩ : ∃ fs, P.underlying t = some (.struct fs) := by
          unfold structB at q4
          split at q4
          · exact ⟨_, by assumption⟩
          · cases q4
        refine srel_bindA hA (srel_guardFlat op x y hx hy (by simpa using q5) hfs) fun ρ1 l1 hA1 _ _ _ => ?_
        exact srel_binFlat hop' q3 (by unfold Op.maxDepth; omega) ⟨fs, hfs⟩ hA1 (hx.mono l1) (hy.mono l1)
      · obtain ⟨e1, he1⟩ : ∃ e, P.underlying t = some (.slice e) := by
          unfold sliceB at q4
          split at q4
          · exact ⟨_, by assumption⟩
          · cases q4
        obtain ⟨a, b, hb, hb'⟩ : ∃ a b, e y = .slice none a b ∧ e' y = .slice none a b := by
          unfold nilB at q3
          split at q3
          · rename_i a b
            exact ⟨a, b, C.const _, C'.const _⟩
          · cases q3
        rw [hb, hb']
        refine srel_bindA hA (srel_guardNil op x y hx a b) fun ρ1 l1 hA1 _ _ _ => ?_
        exact srel_binNil hop' he1 (hx.mono l1) a b
  | slice t x lo hi mx =>
    rw [hop] at ho
    simp only [Bool.and_eq_true] at ho
    obtain ⟨⟨⟨⟨q1, q2⟩, q3⟩, q4⟩, q5⟩ := ho
    cases mx with
    | some m => cases q4
    | none =>
      refine srel_value (srel_sliceAt t (H x q1) (opt_map H q2) (opt_map H q3) ?_)
      unfold sliceB at q5
      split at q5
      · exact ⟨_, by assumption⟩
      · cases q5
  | unOp op t x =>
    rw [hop] at ho
    cases op with
    | not => exact srel_value (srel_not (H x ho))
    | _ => cases ho
  | convert s t x =>
    rw [hop] at ho
    simp only [Bool.and_eq_true] at ho
    obtain ⟨k, hk⟩ := int_of ho.1.2
    exact srel_value (srel_convert hk (int_of ho.1.1) (H x ho.2))
  | makeFunc fn xs ys =>
    rw [hop] at ho
    cases fn with
    | func f =>
      simp only [Bool.and_eq_true] at ho
      have h1 := rows_map H ho.1.2
      have h2 := rows_map H ho.2
      exact srel_value (.pure (.func f (by simpa using ho.1.1) h1.1 h1.2 h2.1 h2.2))
    | _ => cases ho
  | makeChan t x => rw [hop] at ho; exact srel_value (srel_makeChan t (H x ho))
  | makeSlice t x y =>
    rw [hop] at ho
    simp only [Bool.and_eq_true] at ho
    exact srel_value (srel_makeSlice t (H x ho.1.2) (H y ho.2) (slice_zero ho.1.1))
  | fieldAddr s x f =>
    rw [hop] at ho
    simp only [Bool.and_eq_true] at ho
    refine srel_value (srel_fieldAt s f (H x ho.1) fun fs fl h1 h2 i hi => ?_)
    have := ho.2
    simp only [fieldB, h1, h2, hi] at this
    simpa using this
  | indexAddr t x y =>
    rw [hop] at ho
    simp only [Bool.and_eq_true] at ho
    exact srel_value (srel_indexAt t (H x ho.1) (H y ho.2))
  | extract x i => rw [hop] at ho; exact srel_value (srel_extract i (H x ho))
  | call c => rw [hop] at ho; exact srel_call hF o.type ho C C' H
  | _ => rw [hop] at ho; cases ho
end
end Go.Proofs.Ytkodpijedinanaa.Sim
