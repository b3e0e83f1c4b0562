/- Texts that the claim imports, laid together: SimE SimF SimG SimH SimI SimJ. No statement of their own. -/
import Derived.Test.YtkodpijedinanaaKaa
namespace Go.Proofs.Ytkodpijedinanaa.Sim
open Go
set_option linter.unusedVariables false
set_option linter.unusedSimpArgs false

section
variable {P : Program} {ρ : Ren}
theorem srel_movedNumber (t : TypeId) (hA : Above P ρ) {v w x y : Value} (h : VRel ρ v w) (k : VRel ρ x y) : SemRel P VRel ρ (movedNumber t v x) (movedNumber t w y) := by
  unfold movedNumber
  refine srel_bindA hA (srel_underlying t) fun ρ1 l1 hA1 a b hab => ?_
  obtain ⟨rfl, _⟩ := hab
  have h1 := h.mono l1
  have k1 := k.mono l1
  have key : ∀ {v w : Value}, VRel ρ1 v w → SemRel P VRel ρ1 (match v with
      | .pointer (some n) => do
        let __discr ← behindNumber n
        match __discr with
        | (a, lost) => do
          let __do_lift ← Builtin.unsafeAdd_ #[] t #[.pointer (some a), x]
          match __do_lift with
          | .pointer (some b) => asNumber b lost
          | v => pure v
      | _ => Builtin.unsafeAdd_ #[] t #[v, x]) (match w with
      | .pointer (some n) => do
        let __discr ← behindNumber n
        match __discr with
        | (a, lost) => do
          let __do_lift ← Builtin.unsafeAdd_ #[] t #[.pointer (some a), y]
          match __do_lift with
          | .pointer (some b) => asNumber b lost
          | v => pure v
      | _ => Builtin.unsafeAdd_ #[] t #[w, y]) := by
    intro v w hvw
    have hu := (srel_unsafeAdd (P := P) t hvw k1).weak (S := VRel) fun _ _ _ _ h => h.1
    cases hvw with
    | junkS a n c => exact .halt _ _
    | junkP a => exact .halt _ _
    | junkF k b => exact .halt _ _
    | junkC k a b => exact .halt _ _
    | junkM m => exact .halt _ _
    | junkH c => exact .halt _ _
    | junkG f a b => exact .halt _ _
    | junkI t v => exact .halt _ _
    | junkT c => exact .halt _ _
    | ptr hp =>
      refine srel_bindA hA1 (srel_behind hA1 hp) fun ρ2 l2 hA2 m m' hm => ?_
      obtain ⟨ma, ml⟩ := m
      obtain ⟨ma', ml'⟩ := m'
      obtain ⟨q1, q2, _⟩ := hm
      simp only at q1 q2
      subst q2
      refine srel_bind (srel_unsafeAdd t (.ptr q1) (k1.mono l2)) fun ρ3 l3 z z' hz => ?_
      obtain ⟨hz, hnt⟩ := hz
      cases hz with
      | junkS a n c => exact absurd rfl (hnt _)
      | junkP a => exact absurd rfl (hnt _)
      | junkF k b => exact absurd rfl (hnt _)
      | junkC k a b => exact absurd rfl (hnt _)
      | junkM m => exact absurd rfl (hnt _)
      | junkH c => exact absurd rfl (hnt _)
      | junkG f a b => exact absurd rfl (hnt _)
      | junkI t v => exact absurd rfl (hnt _)
      | junkT c => exact absurd rfl (hnt _)
      | ptr hz =>
        unfold asNumber
        exact .new (.number _ hz) fun r s _ _ => .pure (.ptr ⟨.inr ⟨rfl, rfl⟩, rfl, rfl⟩)
      | bool b => exact .pure (.bool b)
      | int k n => exact .pure (.int k n)
      | string s => exact .pure (.string s)
      | ptrNil => exact .pure .ptrNil
      | sliceNil n c => exact .pure (.sliceNil n c)
      | sliceE a => exact .pure (.sliceE a)
      | slice n c h => exact .pure (.slice n c h)
      | mapNil => exact .pure .mapNil
      | map h => exact .pure (.map h)
      | chanNil => exact .pure .chanNil
      | chan h => exact .pure (.chan h)
      | func fn h0 h1 h2 h3 h4 => exact .pure (.func fn h0 h1 h2 h3 h4)
      | nilFunc => exact .pure .nilFunc
      | iface t h => exact .pure (.iface t h)
      | nilIface => exact .pure .nilIface
      | agg h1 h2 => exact .pure (.agg h1 h2)
      | tuple h1 h2 => exact .pure (.tuple h1 h2)
    | _ => exact hu
  cases a <;> first | exact key h1 | exact .halt _ _
theorem srel_eqInt {t : TypeId} {k0 : IntKind} (ht : P.underlying t = some (.int k0)) (hc : ∀ i, P.info? t = some i → ∀ u, i.desc ≠ .named "sync.copyChecker" u) (hA : Above P ρ) {v w x y : Value} (h : VRel ρ v w) (k : VRel ρ x y) :
    SemRel P (fun _ a b => a = b) ρ (Op.equal t v x) (Op.equal t w y) := by
  unfold Op.equal Op.maxDepth Op.equalIn
  refine srel_bindA hA (srel_underlying t) fun ρ1 l1 hA1 a b hab => ?_
  obtain ⟨rfl, hu⟩ := hab
  rw [ht] at hu
  cases hu
  have h1 := h.mono l1
  have k1 := k.mono l1
  cases h1 with
  | ptr h1 =>
    cases k1 with
    | ptr k1 =>
      refine srel_bindA hA1 (srel_behind hA1 h1) fun ρ2 l2 hA2 m m' hm => ?_
      refine srel_bindA hA2 (srel_behind hA2 (k1.mono l2)) fun ρ3 l3 hA3 q q' hq => ?_
      refine srel_bind srel_program fun ρ4 l4 p p' hpq => ?_
      obtain ⟨rfl, rfl⟩ := hpq
      have e1 : (m.1.block == q.1.block && decide (m.1.block < p'.globals.size)) = false := by
        have := hm.2.2
        simp; omega
      have hdead : Dead p' (do
          let .named "sync.copyChecker" _ := (← typeInfo t).desc | unsupported .addressObserved
          if m.1 == q.1 then (pure true : Sem Bool) else unsupported .addressObserved) := by
        refine .program ?_
        show Dead p' (Sem.bind (match p'.info? t with
          | some i => Sem.pure i
          | none => stuck "no such type") fun i => match i.desc with
            | .named "sync.copyChecker" _ => if m.1 == q.1 then (pure true : Sem Bool) else unsupported .addressObserved
            | _ => unsupported .addressObserved)
        cases hi : p'.info? t with
        | none => exact .halt (.stuck "no such type")
        | some i =>
          have hci := hc i hi
          show Dead p' (match i.desc with
            | .named "sync.copyChecker" _ => if m.1 == q.1 then (pure true : Sem Bool) else unsupported .addressObserved
            | _ => unsupported .addressObserved)
          split
          · rename_i u hd
            exact absurd hd (hci u)
          · exact .halt _
      rw [e1]
      exact .dead hdead _
    | int k n =>
      cases n with
      | ofNat n => cases n <;> first | exact .pure rfl | exact .halt _ _
      | negSucc n => exact .halt _ _
    | _ => exact .halt _ _
  | int k n =>
    cases k1 with
    | ptr k1 =>
      cases n with
      | ofNat n => cases n <;> first | exact .pure rfl | exact .halt _ _
      | negSucc n => exact .halt _ _
    | int k' n' =>
      dsimp only
      split
      · exact .pure rfl
      · exact .halt _ _
    | _ => exact .halt _ _
  | _ => cases k1 <;> exact .halt _ _
/-- Which operations on integers are borne. -/
def okBin : BinOp → Bool
  | .add | .sub | .mul | .rem | .lss | .leq | .gtr | .geq | .eql | .neq | .shr => true
  | _ => false
theorem dead_equal {t : TypeId} {k0 : IntKind} (ht : P.underlying t = some (.int k0)) (c : Array Value) (x : Value) : Dead P (Op.equal t (.tuple c) x) ∧ Dead P (Op.equal t x (.tuple c)) := by
  have key : ∀ a b : Value, (∀ d : TypeDesc, d = .int k0 → Dead P (Op.equalIn Op.maxDepth t a b) → True) := fun _ _ _ _ _ => trivial
  constructor <;> (
    unfold Op.equal Op.maxDepth Op.equalIn
    refine .program ?_
    show Dead P (Sem.bind (match P.underlying t with
      | some d => pure d
      | none => _) _)
    rw [ht]
    cases x <;> first
      | exact .halt _
      | (rename_i a; cases a <;> exact .halt _)
      | (rename_i k n; cases n with
         | ofNat n => cases n <;> exact .halt _
         | negSucc n => exact .halt _))
theorem dead_binOp {op : BinOp} (hop : okBin op = true) {t : TypeId} {k0 : IntKind} (ht : P.underlying t = some (.int k0)) (c : Array Value) (x : Value) : Dead P (binOp op t (.tuple c) x) ∧ Dead P (binOp op t x (.tuple c)) := by
  obtain ⟨h1, h2⟩ := dead_equal ht c x
  have e1 := h1.bind fun b => pure (Value.bool b)
  have e2 := h2.bind fun b => pure (Value.bool b)
  have n1 := h1.bind fun b => pure (Value.bool !b)
  have n2 := h2.bind fun b => pure (Value.bool !b)
  cases op <;> first
    | (cases hop; done)
    | (constructor <;> cases x <;> first
        | exact .halt _
        | exact e1
        | exact e2
        | exact n1
        | exact n2
        | (rename_i a; cases a <;> exact .halt _))
set_option maxHeartbeats 1000000 in
theorem srel_binOp {op : BinOp} (hop : okBin op = true) {t : TypeId} {k0 : IntKind} (ht : P.underlying t = some (.int k0)) (hc : ∀ i, P.info? t = some i → ∀ u, i.desc ≠ .named "sync.copyChecker" u) (hA : Above P ρ) {v w x y : Value} (h : VRel ρ v w) (k : VRel ρ x y) :
    SemRel P VRel ρ (binOp op t v x) (binOp op t w y) := by
  have he := srel_map (srel_eqInt ht hc hA h k) (S := VRel) (f := fun b => Value.bool b) (f' := fun b => Value.bool b) fun ρ' l a b hab => by rw [hab]; exact .bool b
  have hn := srel_map (srel_eqInt ht hc hA h k) (S := VRel) (f := fun b => Value.bool !b) (f' := fun b => Value.bool !b) fun ρ' l a b hab => by rw [hab]; exact .bool _
  have hm1 := srel_movedNumber t hA h k
  have hm2 := srel_movedNumber t hA k h
  have hmp : P.underlying t ≠ some .unsafePointer := by rw [ht]; simp
  have hi : ∀ (op : BinOp) (k1 k2 : IntKind) (a b : Int), SemRel P VRel ρ (if k1 ≠ k2 then stuck "BinOp: operands of different kinds" else Op.intArith op k1 a b) (if k1 ≠ k2 then stuck "BinOp: operands of different kinds" else Op.intArith op k1 a b) := fun op k1 k2 a b => by
    split
    · exact .halt _ _
    · exact srel_intArith op k1 a b
  have hj : ∀ (op : BinOp) (k1 k2 : IntKind) (a b : Int), SemRel P VRel ρ (if k1 ≠ k2 then stuck "BinOp: operands of different kinds" else Op.intCmp op a b) (if k1 ≠ k2 then stuck "BinOp: operands of different kinds" else Op.intCmp op a b) := fun op k1 k2 a b => by
    split
    · exact .halt _ _
    · exact srel_intCmp op a b
  have hd : ∀ (op : BinOp) (k1 k2 : IntKind) (a b : Int), SemRel P VRel ρ (if k1 ≠ k2 then stuck "BinOp: operands of different kinds" else Op.intDiv op k1 a b) (if k1 ≠ k2 then stuck "BinOp: operands of different kinds" else Op.intDiv op k1 a b) := fun op k1 k2 a b => by
    split
    · exact .halt _ _
    · exact srel_intDiv op k1 a b
  by_cases hv : ∃ c, v = .tuple c
  · obtain ⟨c, rfl⟩ := hv
    exact .dead (dead_binOp hop ht c x).1 _
  by_cases hv' : ∃ c, x = .tuple c
  · obtain ⟨c, rfl⟩ := hv'
    exact .dead (dead_binOp hop ht c v).2 _
  cases op <;> first
    | (cases hop; done)
    | skip
  all_goals (cases h <;> first
    | (exact absurd ⟨_, rfl⟩ hv)
    | skip)
  all_goals (cases k <;> first
    | (exact absurd ⟨_, rfl⟩ hv')
    | exact .halt _ _
    | exact he
    | exact hn
    | exact hi _ _ _ _ _
    | exact hj _ _ _ _ _
    | exact hd _ _ _ _ _
    | exact srel_shift _ _ _ _ _
    | exact srel_stringOp _ _ _
    | exact hm2
    | (rename_i q _; exact srel_movedNumber t hA (.ptr q) (.int _ _))
    | (rename_i q1 q2; exact srel_addrCmp _ hA q1 q2)
    | (rename_i q1 q2; exact srel_addrSub _ hA q1 q2)
    | skip)
  case add.string.string => exact srel_stringOp .add _ _
  case add.ptrNil.int =>
    refine srel_bindA hA (srel_underlying t) fun ρ' l hA' a b hab => ?_
    obtain ⟨rfl, hu⟩ := hab
    rw [ht] at hu
    cases hu
    exact srel_movedNumber t hA' .ptrNil (.int _ _)
  case add.ptr.int q _ _ =>
    refine srel_bindA hA (srel_underlying t) fun ρ' l hA' a b hab => ?_
    obtain ⟨rfl, hu⟩ := hab
    rw [ht] at hu
    cases hu
    exact srel_movedNumber t hA' (.ptr (ARel.mono q l)) (.int _ _)
  case sub.ptrNil.int => exact srel_movedNumber t hA .ptrNil (.int _ _)
  case sub.ptr.int q _ _ => exact srel_movedNumber t hA (.ptr q) (.int _ _)
  case rem.ptr.int q _ _ => exact srel_bindA hA (srel_behind hA q) fun ρ' l hA' m m' hm => srel_addrMod _ _ hm.1
  case sub.ptr.ptr q1 _ _ q2 => exact srel_addrSub _ hA q1 q2
  all_goals first
    | exact srel_stringOp .lss _ _
    | exact srel_stringOp .leq _ _
    | exact srel_stringOp .gtr _ _
    | exact srel_stringOp .geq _ _
    | exact srel_stringOp .eql _ _
    | exact srel_stringOp .neq _ _
    | exact srel_stringOp .sub _ _
    | exact srel_stringOp .mul _ _
    | exact srel_shift .shr _ _ _ _
    | exact srel_addrCmp .lss hA (by assumption) (by assumption)
    | exact srel_addrCmp .leq hA (by assumption) (by assumption)
    | exact srel_addrCmp .gtr hA (by assumption) (by assumption)
    | exact srel_addrCmp .geq hA (by assumption) (by assumption)
    | (simp only [binOp]; exact srel_shift _ _ _ _ _)
    | (unfold binOp; exact srel_shift _ _ _ _ _)
    | skip
  done
end
end Go.Proofs.Ytkodpijedinanaa.Sim

namespace Go.Proofs.Ytkodpijedinanaa.Sim
open Go
set_option linter.unusedVariables false
set_option linter.unusedSimpArgs false

section
variable {P : Program} {ρ : Ren}
theorem fill_rel (place : Nat → Option (Nat × Nat)) : ∀ (l m : List (Nat × Value)) (c d : Array Value), RowRel ρ c d → l.length = m.length → (∀ (i : Nat) (x y : Nat × Value), l[i]? = some x → m[i]? = some y → x.1 = y.1 ∧ VRel ρ x.2 y.2) →
    ∀ e, Instr.fill place c l = some e → ∃ f, Instr.fill place d m = some f ∧ RowRel ρ e f
  | [], [], c, d, h, _, _, e, he => by simp only [Instr.fill, Option.some.injEq] at he; subst he; exact ⟨d, rfl, h⟩
  | x :: l, y :: m, c, d, h, hl, hr, e, he => by
    obtain ⟨h1, h2⟩ := hr 0 x y rfl rfl
    have hc := h2.cells
    obtain ⟨xi, xv⟩ := x
    obtain ⟨yi, yv⟩ := y
    simp only at h1 h2 hc
    subst h1
    unfold Instr.fill at he ⊢
    cases hp : place xi with
    | none => rw [hp] at he; cases he
    | some q =>
      obtain ⟨off, size⟩ := q
      simp only [hp] at he ⊢
      rw [← hc.1, ← h.1]
      split at he
      · cases he
      · rename_i hn
        rw [if_neg hn]
        refine fill_rel place l m _ _ ?_ (by simpa using hl) (fun i x y a b => hr (i + 1) x y (by simpa using a) (by simpa using b)) e he
        have key : ∀ (n : Nat) (zs us : List Value) (c d : Array Value), RowRel ρ c d → zs.length = us.length → (∀ (i : Nat) v w, zs[i]? = some v → us[i]? = some w → VRel ρ v w) →
            RowRel ρ ((zs.zipIdx n).foldl (fun cs x => cs.setIfInBounds (off + x.2) x.1) c) ((us.zipIdx n).foldl (fun cs x => cs.setIfInBounds (off + x.2) x.1) d) := by
          intro n zs
          induction zs generalizing n with
          | nil => intro us c d h hl _; cases us with
            | nil => exact h
            | cons => simp at hl
          | cons z zs ih =>
            intro us c d h hl hr
            cases us with
            | nil => simp at hl
            | cons u us =>
              simp only [List.zipIdx_cons, List.foldl_cons]
              exact ih (n + 1) us _ _ (h.set _ (hr 0 z u rfl rfl)) (by simpa using hl) fun i v w a b => hr (i + 1) v w (by simpa using a) (by simpa using b)
        have := key 0 xv.cells.toList yv.cells.toList c d h hc.toList.1 hc.toList.2
        rw [← Array.foldl_toList, ← Array.foldl_toList, Array.toList_zipIdx, Array.toList_zipIdx]
        exact this
  | [], y :: m, c, d, h, hl, _, e, he => by simp at hl
  | x :: l, [], c, d, h, hl, _, e, he => by simp at hl
theorem RowRel.bang {c d : Array Value} (h : RowRel ρ c d) (k : Nat) : VRel ρ c[k]! d[k]! := by
  by_cases hk : k < c.size
  · rw [getElem!_pos c k hk, getElem!_pos d k (by rw [← h.1]; exact hk)]
    exact h.2 k _ _ (Array.getElem?_eq_getElem hk) (Array.getElem?_eq_getElem _)
  · rw [getElem!_neg c k hk, getElem!_neg d k (by rw [← h.1]; exact hk)]
    exact .bool _
theorem RowRel.repeated {c d : Array Value} (h : RowRel ρ c d) (n : Nat) (f : Nat → Nat) : RowRel ρ ((Array.range n).map fun x => c[f x]!) ((Array.range n).map fun x => d[f x]!) :=
  ⟨by simp, fun i v w hv hw => by
    simp only [Array.getElem?_map, Option.map_eq_some_iff] at hv hw
    obtain ⟨x, hx, rfl⟩ := hv
    obtain ⟨y, hy, rfl⟩ := hw
    rw [hx] at hy
    cases hy
    exact h.bang _⟩
/-- Parts of a literal. -/
def PartsRel (ρ : Ren) (c d : Array (Nat × Value)) : Prop := c.size = d.size ∧ ∀ (i : Nat) x y, c[i]? = some x → d[i]? = some y → x.1 = y.1 ∧ VRel ρ x.2 y.2
theorem PartsRel.mono {ρ ρ' : Ren} (hle : Ren.le ρ ρ') {c d : Array (Nat × Value)} (h : PartsRel ρ c d) : PartsRel ρ' c d := ⟨h.1, fun i x y a b => ⟨(h.2 i x y a b).1, (h.2 i x y a b).2.mono hle⟩⟩
theorem srel_buildSlice (t : TypeId) (len : Nat) {c d : Array (Nat × Value)} (h : PartsRel ρ c d) (hz : ∀ e, P.underlying t = some (.slice e) → ZeroOk P e) : SemRel P VRel ρ (Instr.buildSlice t len c) (Instr.buildSlice t len d) := by
  unfold Instr.buildSlice
  refine srel_bind (srel_underlying t) fun ρ1 l1 a b hab => ?_
  obtain ⟨rfl, hu⟩ := hab
  cases a with
  | slice elem =>
    have hz := hz elem hu
    refine srel_bind (srel_sizeOf elem) fun ρ2 l2 n n' hn => ?_
    obtain ⟨rfl, _⟩ := hn
    have JP : ∀ ρ3, Ren.le ρ2 ρ3 → ∀ zero zero' : Array Value, RowRel ρ3 zero zero' → SemRel P VRel ρ3 (match
          Instr.fill (fun i => some (i * n, n)) (Array.map (fun x => zero[x % zero.size]!) (Array.range (len * n)))
            c.toList with
        | some cells => do
          let __do_lift ← newRow elem cells
          pure (Value.slice (some __do_lift) len len)
        | x => stuck "buildSlice: a part of the wrong size") (match
          Instr.fill (fun i => some (i * n, n)) (Array.map (fun x => zero'[x % zero'.size]!) (Array.range (len * n)))
            d.toList with
        | some cells => do
          let __do_lift ← newRow elem cells
          pure (Value.slice (some __do_lift) len len)
        | x => stuck "buildSlice: a part of the wrong size") := fun ρ3 l3 zero zero' hzz => by
      have hp := h.mono (l1.trans (l2.trans l3))
      cases hf : Instr.fill (fun i => some (i * n, n)) (Array.map (fun x => zero[x % zero.size]!) (Array.range (len * n))) c.toList with
      | none => exact .halt _ _
      | some e =>
        have hr := hzz.repeated (len * n) fun x => x % zero.size
        rw [show (Array.map (fun x => zero'[x % zero.size]!) (Array.range (len * n))) = Array.map (fun x => zero'[x % zero'.size]!) (Array.range (len * n)) by rw [hzz.1]] at hr
        obtain ⟨f, hf', hef⟩ := fill_rel (fun i => some (i * n, n)) c.toList d.toList _ _ hr (by simpa using hp.1) (fun i x y a b => hp.2 i x y (by simpa using a) (by simpa using b)) e hf
        rw [hf']
        exact srel_map (srel_newRow elem hef) fun ρ4 l4 a b hab => .slice len len hab
    dsimp only
    split
    · exact .halt _ _
    · split
      · exact JP ρ2 (Ren.le.refl _) _ _ (RowRel.nil _)
      · refine srel_bind (srel_zeroValue hz) fun ρ3 l3 a b hab => ?_
        exact JP ρ3 l3 _ _ hab.1.cells
  | _ => exact .halt _ _
theorem srel_len (ats : Array TypeId) (ty : TypeId) {c d : Array Value} (h : RowRel ρ c d) (hch : ∀ t, ats[0]? = some t → ∀ x e, P.underlying t ≠ some (.chan x e)) : SemRel P VRel ρ (Builtin.len_ ats ty c) (Builtin.len_ ats ty d) := by
  unfold Builtin.len_
  have h0 : ∀ v, c[0]? = some v → ∃ w, d[0]? = some w ∧ VRel ρ v w := fun v hv => h.at hv
  cases hc : c[0]? with
  | none =>
    rw [h.none hc]
    cases ats[0]? <;> exact .halt _ _
  | some v =>
    obtain ⟨w, hw, hvw⟩ := h0 v hc
    rw [hw]
    cases ht : ats[0]? with
    | none => exact .halt _ _
    | some t =>
      have hch := hch t ht
      refine srel_bind (srel_underlying t) fun ρ1 l1 a b hab => ?_
      obtain ⟨rfl, hu⟩ := hab
      have h1 := hvw.mono l1
      cases a with
      | chan x e => exact absurd hu (hch x e)
      | string => cases h1 <;> first | exact .pure (.int _ _) | exact .halt _ _
      | array n e => cases h1 <;> exact .pure (.int _ _)
      | slice e => cases h1 <;> first | exact .pure (.int _ _) | exact .halt _ _
      | pointer e =>
        have hp : SemRel P VRel ρ1 (do
            let .array n _ ← underlying e | stuck "len: pointer to array expected"
            pure (goInt n)) (do
            let .array n _ ← underlying e | stuck "len: pointer to array expected"
            pure (goInt n)) := by
          refine srel_bind (srel_underlying e) fun ρ2 l2 a b hab => ?_
          obtain ⟨rfl, _⟩ := hab
          cases a <;> first | exact .pure (.int _ _) | exact .halt _ _
        cases h1 <;> exact hp
      | map k e =>
        cases h1 <;> first
          | exact .pure (.int _ _)
          | exact .halt _ _
          | (refine .getObj (by assumption) fun o o' ho => ?_
             cases ho <;> exact .halt _ _)
      | _ => cases h1 <;> exact .halt _ _
theorem srel_min2 {v w x y : Value} (h : VRel ρ v w) (k : VRel ρ x y) : SemRel P VRel ρ (Builtin.min2 v x) (Builtin.min2 w y) := by
  cases h <;> cases k <;> first
    | exact .halt _ _
    | exact .pure (.int _ _)
    | skip
  refine srel_bind (srel_stringOp .leq _ _) fun ρ1 l1 a b hab => ?_
  refine srel_map (srel_asBool hab) fun ρ2 l2 x y hxy => ?_
  subst hxy
  split <;> exact .string _
theorem srel_min (ats : Array TypeId) (ty : TypeId) {c d : Array Value} (h : RowRel ρ c d) : SemRel P VRel ρ (Builtin.min_ ats ty c) (Builtin.min_ ats ty d) := by
  unfold Builtin.min_
  obtain ⟨hl, hr⟩ := h.toList
  have key : ∀ (l m : List Value) (ρ : Ren) (v w : Value), VRel ρ v w → l.length = m.length → (∀ (j : Nat) v w, l[j]? = some v → m[j]? = some w → VRel ρ v w) → SemRel P VRel ρ (l.foldlM Builtin.min2 v) (m.foldlM Builtin.min2 w) := by
    intro l
    induction l with
    | nil => intro m ρ v w hv hl _; cases m with
      | nil => exact .pure hv
      | cons => simp at hl
    | cons a l ih =>
      intro m ρ v w hv hl hr
      cases m with
      | nil => simp at hl
      | cons b m =>
        rw [List.foldlM_cons, List.foldlM_cons]
        refine srel_bind (srel_min2 hv (hr 0 a b rfl rfl)) fun ρ' l' x y hxy => ?_
        exact ih m ρ' x y hxy (by simpa using hl) fun j v w p q => (hr (j + 1) v w (by simpa using p) (by simpa using q)).mono l'
  revert hl hr
  generalize c.toList = l
  generalize d.toList = m
  intro hl hr
  cases l with
  | nil => exact .halt _ _
  | cons a l =>
    cases m with
    | nil => simp at hl
    | cons b m => exact key l m ρ a b (hr 0 a b rfl rfl) (by simpa using hl) fun j v w p q => hr (j + 1) v w (by simpa using p) (by simpa using q)
theorem srel_indexAt (t : TypeId) {v w x y : Value} (h : VRel ρ v w) (k : VRel ρ x y) : SemRel P VRel ρ (Instr.indexAt t v x) (Instr.indexAt t w y) := by
  unfold Instr.indexAt
  refine srel_bind (srel_asIntOf k) fun ρ1 l1 n n' hn => ?_
  subst hn
  obtain ⟨nk, ni⟩ := n
  refine srel_bind (srel_underlying t) fun ρ2 l2 a b hab => ?_
  obtain ⟨rfl, hu⟩ := hab
  have h1 := (h.mono l1).mono l2
  have JP : ∀ ρ3, Ren.le ρ2 ρ3 → ∀ (base base' : Option Addr) (len : Nat) (elem : TypeId), ((base = none ∧ base' = none) ∨ ∃ a b, base = some a ∧ base' = some b ∧ ARel ρ3 a b) → SemRel P VRel ρ3 (do
          let __do_lift ← underlying t
          have tiny : Bool := decide (len ≤ 1) && match __do_lift with
              | TypeDesc.array len elem => true
              | x => false
          match base with
            | some a =>
              if 0 ≤ ni ∧ ni < ↑len then do
                let __do_lift ← sizeOf elem
                pure (Value.pointer (some (a.add (ni.toNat * __do_lift))))
              else
                if tiny = true then
                  unsupported (Unsupported.noEntry "op/indexAddr.an index out of range at an array of length 0 or 1 (ledger 616)")
                else boundsPanic nk ni (↑len) BoundsCode.index
            | none => boundsPanic nk ni 0 BoundsCode.index) (do
          let __do_lift ← underlying t
          have tiny : Bool := decide (len ≤ 1) && match __do_lift with
              | TypeDesc.array len elem => true
              | x => false
          match base' with
            | some a =>
              if 0 ≤ ni ∧ ni < ↑len then do
                let __do_lift ← sizeOf elem
                pure (Value.pointer (some (a.add (ni.toNat * __do_lift))))
              else
                if tiny = true then
                  unsupported (Unsupported.noEntry "op/indexAddr.an index out of range at an array of length 0 or 1 (ledger 616)")
                else boundsPanic nk ni (↑len) BoundsCode.index
            | none => boundsPanic nk ni 0 BoundsCode.index) := fun ρ3 l3 base base' len elem hb => by
    refine srel_bind (srel_underlying t) fun ρ4 l4 a b hab => ?_
    obtain ⟨rfl, _⟩ := hab
    rcases hb with ⟨rfl, rfl⟩ | ⟨p, q, rfl, rfl, hpq⟩
    · exact srel_bpanic _ _ _ _
    · dsimp only
      split
      · refine srel_map (srel_sizeOf elem) fun ρ5 l5 m m' hm => ?_
        obtain ⟨rfl, _⟩ := hm
        exact .ptr ((hpq.mono (l4.trans l5)).add _)
      · split <;> (split <;> first | exact .halt _ _ | exact srel_bpanic _ _ _ _)
  cases a with
  | array n e =>
    have h2 := srel_sureAddr (P := P) h1
    have := srel_bind h2 (S := VRel) (f := fun a => _) (f' := fun a => _) fun ρ3 l3 a b hab => JP ρ3 l3 (some a) (some b) n e (.inr ⟨a, b, rfl, rfl, hab⟩)
    cases h1 <;> exact this
  | slice e =>
    cases h1 with
    | sliceNil n c => exact JP ρ2 (Ren.le.refl _) none none n e (.inl ⟨rfl, rfl⟩)
    | slice n c q => exact JP ρ2 (Ren.le.refl _) _ _ n e (.inr ⟨_, _, rfl, rfl, q⟩)
    | sliceE a =>
      refine .dead (.program ?_) _
      show Dead P (Sem.bind (match P.underlying t with
        | some d => Sem.pure d
        | none => stuck "no such type") _)
      cases P.underlying t with
      | none => exact .halt (.stuck "no such type")
      | some d => exact dead_bpanic _ _ _ _
    | _ => exact .halt _ _
  | _ => cases h1 <;> exact .halt _ _
theorem srel_extract (i : Nat) {v w : Value} (h : VRel ρ v w) : SemRel P VRel ρ (Instr.extract v i) (Instr.extract w i) := by
  cases h with
  | @tuple c d h1 h2 =>
    unfold Instr.extract
    dsimp only
    cases hc : c[i]? with
    | none => exact .halt _ _
    | some x =>
      obtain ⟨y, hy, hxy⟩ := RowRel.at (ρ := ρ) (c := c) (d := d) ⟨h1, h2⟩ hc
      rw [hy]
      exact .pure hxy
  | _ => exact .halt _ _
theorem srel_alloc (t : TypeId) (hz : ZeroOk P t) : SemRel P VRel ρ (Instr.alloc t true (.tuple #[])) (Instr.alloc t true (.tuple #[])) := by
  unfold Instr.alloc
  refine srel_bind (srel_zeroValue hz) fun ρ1 l1 a b hab => ?_
  exact srel_map (srel_newVar t hab.1) fun ρ2 l2 x y hxy => .ptr hxy
theorem srel_box (t : TypeId) {v w : Value} (h : VRel ρ v w) : SemRel P VRel ρ (Instr.box t v) (Instr.box t w) := by
  unfold Instr.box
  exact srel_map (srel_newVar t h) fun ρ2 l2 x y hxy => .ptr hxy
theorem srel_loadAt (t : TypeId) {v w : Value} (h : VRel ρ v w) : SemRel P VRel ρ (Instr.loadAt t v) (Instr.loadAt t w) := by
  unfold Instr.loadAt
  exact srel_bind (srel_sureAddr h) fun ρ1 l1 a b hab => srel_loadVar t hab
theorem srel_storeAt (t : TypeId) {v w x y : Value} (h : VRel ρ v w) (k : VRel ρ x y) : SemRel P (fun _ _ _ => True) ρ (Instr.storeAt t v x) (Instr.storeAt t w y) := by
  unfold Instr.storeAt
  exact srel_bind (srel_sureAddr h) fun ρ1 l1 a b hab => srel_storeVar t hab (k.mono l1)
theorem srel_not {v w : Value} (h : VRel ρ v w) : SemRel P VRel ρ (Op.unary .not v) (Op.unary .not w) := by
  unfold Op.unary
  cases h <;> first
    | exact .halt _ _
    | exact .pure (.bool _)
end
end Go.Proofs.Ytkodpijedinanaa.Sim

namespace Go.Proofs.Ytkodpijedinanaa.Sim
open Go
set_option linter.unusedVariables false
set_option linter.unusedSimpArgs false

section
variable {P : Program} {ρ : Ren}
theorem srel_lenOf {v w : Value} (h : VRel ρ v w) : SemRel P (fun _ a b => a = b ∧ (v = .slice none 0 0 → a = 0)) ρ (Builtin.lenOf v) (Builtin.lenOf w) := by
  cases h <;> first
    | exact .pure ⟨rfl, fun e => by cases e; rfl⟩
    | exact .pure ⟨rfl, fun e => by cases e⟩
    | exact .halt _ _
theorem firstCells_none (size : Nat) {v w : Value} (h : VRel ρ v w) : SemRel P (fun _ a b => a = #[] ∧ b = #[]) ρ (Builtin.firstCells size 0 v) (Builtin.firstCells size 0 w) := by
  have e : ∀ a : Addr, loadCells a (0 * size) = .pure #[] := fun a => by rw [Nat.zero_mul]; rfl
  cases h <;> first
    | exact .halt _ _
    | (simp only [Builtin.firstCells, e]; exact .pure ⟨rfl, rfl⟩)
    | (simp only [Builtin.firstCells]; exact .pure ⟨by simp, by simp⟩)
theorem srel_firstCells (size n : Nat) {v w : Value} (h : VRel ρ v w) (hn : v = .slice none 0 0 → n = 0) : SemRel P RowRel ρ (Builtin.firstCells size n v) (Builtin.firstCells size n w) := by
  cases h with
  | sliceE a =>
    rw [hn rfl]
    exact (firstCells_none size (.sliceE a)).weak fun _ _ a b h => by rw [h.1, h.2]; exact RowRel.nil _
  | slice n c q => exact srel_loadCells q _
  | sliceNil n c => exact .pure (RowRel.nil _)
  | string s => exact .pure ⟨rfl, fun i v w a b => by
      rw [a] at b
      cases b
      simp only [Array.getElem?_map, Option.map_eq_some_iff] at a
      obtain ⟨x, _, rfl⟩ := a
      exact .int _ _⟩
  | _ => exact .halt _ _
theorem srel_askRoom (n : Nat) : SemRel P (fun _ _ _ => True) ρ (askRoom n) (askRoom n) := by
  unfold askRoom
  split
  · exact .noRoom (.pure trivial)
  · exact .pure trivial
theorem sem_assoc {α β γ : Type} (s : Sem α) (f : α → Sem β) (g : β → Sem γ) : (s.bind f).bind g = s.bind fun x => (f x).bind g := by
  induction s with
  | pure a => rfl
  | load m a k ih => simp only [Sem.bind, ih]
  | store m a v k ih => simp only [Sem.bind, ih]
  | new o k ih => simp only [Sem.bind, ih]
  | shape r k ih => simp only [Sem.bind, ih]
  | freeze a n k ih => simp only [Sem.bind, ih]
  | frozen a k ih => simp only [Sem.bind, ih]
  | getObj r k ih => simp only [Sem.bind, ih]
  | setObj r o k ih => simp only [Sem.bind, ih]
  | choose q k ih => simp only [Sem.bind, ih]
  | sys c k ih => simp only [Sem.bind, ih]
  | program k ih => simp only [Sem.bind, ih]
  | mark m k ih => simp only [Sem.bind, ih]
  | halt h => rfl
/-- What follows decides whether it ends in a halt. -/
structure Passes {α : Type} (s : Sem α) : Prop where
  out : ∀ {β : Type} {P : Program} (f : α → Sem β), (∀ b, Dead P (f b)) → Dead P (s.bind f)
theorem passes_pure {α : Type} (a : α) : Passes (pure a : Sem α) := ⟨fun f h => h a⟩
theorem passes_bind {α β : Type} {s : Sem α} {g : α → Sem β} (h : Passes s) (k : ∀ a, Passes (g a)) : Passes (s >>= g) := ⟨fun {_} {P} f hf => by
  show Dead P ((s.bind g).bind f)
  rw [sem_assoc]
  exact h.out _ fun a => (k a).out f hf⟩
theorem passes_shape (r : Nat) : Passes (shape r) := ⟨fun f h => .shape r fun s => h s⟩
theorem passes_frozen (a : Addr) : Passes (frozen a) := ⟨fun f h => .frozen a fun s => h s⟩
theorem passes_holds (a : Addr) (n : Nat) : Passes (Builtin.holdsCells a n) := by
  unfold Builtin.holdsCells
  refine passes_bind (passes_shape _) fun s => ?_
  cases s <;> exact passes_pure _
theorem passes_mayShare (size sLen n : Nat) (base : Option Addr) (x : Value) : Passes (Builtin.mayShare size sLen n base x) := by
  unfold Builtin.mayShare
  have JP : ∀ there : Bool, Passes (if (!there) = true then (pure true : Sem Bool) else match x with
      | .slice (some b) _ _ => do pure (!(← Builtin.holdsCells b (n * size)) || base.any (·.block == b.block))
      | _ => pure false) := fun there => by
    split
    · exact passes_pure _
    · split
      · exact passes_bind (passes_holds _ _) fun b => passes_pure _
      · exact passes_pure _
  cases base with
  | none => exact JP true
  | some a => exact passes_bind (passes_holds _ _) fun b => passes_bind (passes_frozen _) fun c => JP _
theorem srel_append (ats : Array TypeId) (ty : TypeId) {c d : Array Value} (h : RowRel ρ c d) (hni : ∀ t, ats[1]? = some t → ∀ k, P.underlying t ≠ some (.int k)) (hz : ∀ t e, ats[0]? = some t → P.underlying t = some (.slice e) → ZeroOk P e) :
    SemRel P VRel ρ (Builtin.append_ ats ty c) (Builtin.append_ ats ty d) := by
  unfold Builtin.append_
  cases ht : ats[0]? with
  | none => exact .halt _ _
  | some sT =>
    cases hc0 : c[0]? with
    | none => exact .halt _ _
    | some v =>
      obtain ⟨w, hw, hvw⟩ := h.at hc0
      cases hc1 : c[1]? with
      | none => exact .halt _ _
      | some x =>
        obtain ⟨y, hy, hxy⟩ := h.at hc1
        rw [hw, hy]
        dsimp only
        refine srel_bind (srel_underlying sT) fun ρ1 l1 a b hab => ?_
        obtain ⟨rfl, hu⟩ := hab
        cases a with
        | slice elem =>
          have hz := hz sT elem ht hu
          have hv1 := hvw.mono l1
          have hx1 := hxy.mono l1
          clear hvw hxy h
          have both : ∀ (S S' : Bool → Sem Value) ρ2, Ren.le ρ1 ρ2 → (∀ ρ3, Ren.le ρ2 ρ3 → SemRel P VRel ρ3 (S false) (S' false)) → SemRel P VRel ρ2 (match ats[1]? with
              | some xType => do
                let __do_lift ← underlying xType
                let zeros ← pure (match __do_lift with
                  | TypeDesc.int k => true
                  | x => false)
                S zeros
              | none => do
                let zeros ← pure false
                S zeros) (match ats[1]? with
              | some xType => do
                let __do_lift ← underlying xType
                let zeros ← pure (match __do_lift with
                  | TypeDesc.int k => true
                  | x => false)
                S' zeros
              | none => do
                let zeros ← pure false
                S' zeros) := fun S S' ρ2 l2 hS => by
            cases h1 : ats[1]? with
            | none => exact hS ρ2 (Ren.le.refl _)
            | some t1 =>
              refine srel_bind (srel_underlying t1) fun ρ3 l3 a b hab => ?_
              obtain ⟨rfl, hu1⟩ := hab
              cases a with
              | int k => exact absurd hu1 (hni t1 h1 k)
              | _ => exact hS ρ3 l3
          cases hv1 with
          | slice sl sc q =>
            refine srel_bind (srel_sizeOf elem) fun ρ2 l2 m m' hm => ?_
            obtain ⟨rfl, _⟩ := hm
            refine both _ _ ρ2 l2 fun ρ2' l2' => ?_
            have hxx := (hx1.mono l2).mono l2'
            have qqq := (q.mono l2).mono l2'
            have hbb : VRel ρ2' (.slice (some _) sl sc) (.slice (some _) sl sc) := .slice sl sc qqq
            simp only [Bool.false_eq_true, if_false, Bool.not_false, if_true, false_or]
            refine srel_bind (srel_lenOf hxx) fun ρ3 l3 n n' hn => ?_
            obtain ⟨rfl, hn⟩ := hn
            have hx3 := hxx.mono l3
            have hb3 := hbb.mono l3
            have qq := qqq.mono l3
            split
            · refine srel_bind (srel_firstCells m n hx3 hn) fun ρ4 l4 new new' hnew => ?_
              refine srel_bind (srel_storeCells (((qq.mono l4)).add _) _ _ 0 hnew.toList.1 hnew.toList.2) fun ρ5 l5 _ _ _ => ?_
              exact .pure (.slice _ _ ((qq.mono l4).mono l5))
            · refine srel_bind (srel_typeInfo elem) fun ρ4 l4 i i' hi => ?_
              obtain ⟨rfl, _⟩ := hi
              split
              · exact srel_bind (R := fun _ _ _ => False) (srel_rpanic (by trivial) (by trivial)) fun _ _ _ _ h => h.elim
              · refine srel_bind (srel_typeInfo elem) fun ρ5 l5 i i' hi => ?_
                obtain ⟨rfl, _⟩ := hi
                split
                · refine .dead ?_ _
                  refine Dead.bind ((passes_mayShare _ _ _ _ _).out _ fun b => ?_) _
                  cases b
                  · exact .mark _ (.halt _)
                  · exact .halt _
                · refine srel_bind (R := fun _ a b => a = b) (.choose _ fun z => .pure rfl) fun ρ6 l6 nc nc' hnc => ?_
                  subst hnc
                  refine srel_bind (srel_typeInfo elem) fun ρ7 l7 i i' hi => ?_
                  obtain ⟨rfl, _⟩ := hi
                  refine srel_bind (srel_askRoom _) fun ρ8 l8 _ _ _ => ?_
                  have hle := l4.trans (l5.trans (l6.trans (l7.trans l8)))
                  refine srel_bind (srel_firstCells m sl (hb3.mono hle) fun e => by cases e) fun ρ9 l9 old old' hold => ?_
                  refine srel_bind (srel_firstCells m n ((hx3.mono hle).mono l9) hn) fun ρ10 l10 new new' hnew => ?_
                  refine srel_bind (srel_zeroValue hz) fun ρ11 l11 z z' hzz => ?_
                  have hcells : RowRel ρ11 (old ++ new ++ Builtin.zeroCells z.cells (nc - (sl + n))) (old' ++ new' ++ Builtin.zeroCells z'.cells (nc - (sl + n))) := by
                    refine (((hold.mono l10).mono l11).append (hnew.mono l11)).append ?_
                    unfold Builtin.zeroCells
                    have := hzz.1.cells
                    rw [← this.1]
                    exact this.repeated _ _
                  exact srel_map (srel_newRow elem hcells) fun ρ12 l12 a b hab => .slice _ _ hab
          | sliceNil sl sc =>
            refine srel_bind (srel_sizeOf elem) fun ρ2 l2 m m' hm => ?_
            obtain ⟨rfl, _⟩ := hm
            refine both _ _ ρ2 l2 fun ρ2' l2' => ?_
            have hxx := (hx1.mono l2).mono l2'
            have hbb : VRel ρ2' (.slice none sl sc) (.slice none sl sc) := .sliceNil sl sc
            simp only [Bool.false_eq_true, if_false, Bool.not_false, if_true, false_or]
            refine srel_bind (srel_lenOf hxx) fun ρ3 l3 n n' hn => ?_
            obtain ⟨rfl, hn⟩ := hn
            have hx3 := hxx.mono l3
            have hb3 := hbb.mono l3
            split
            · refine srel_bind (srel_firstCells m n hx3 hn) fun ρ4 l4 new new' hnew => ?_
              exact .pure (.sliceNil _ _)
            · refine srel_bind (srel_typeInfo elem) fun ρ4 l4 i i' hi => ?_
              obtain ⟨rfl, _⟩ := hi
              split
              · exact srel_bind (R := fun _ _ _ => False) (srel_rpanic (by trivial) (by trivial)) fun _ _ _ _ h => h.elim
              · refine srel_bind (srel_typeInfo elem) fun ρ5 l5 i i' hi => ?_
                obtain ⟨rfl, _⟩ := hi
                split
                · refine .dead ?_ _
                  refine Dead.bind ((passes_mayShare _ _ _ _ _).out _ fun b => ?_) _
                  cases b
                  · exact .mark _ (.halt _)
                  · exact .halt _
                · refine srel_bind (R := fun _ a b => a = b) (.choose _ fun z => .pure rfl) fun ρ6 l6 nc nc' hnc => ?_
                  subst hnc
                  refine srel_bind (srel_typeInfo elem) fun ρ7 l7 i i' hi => ?_
                  obtain ⟨rfl, _⟩ := hi
                  refine srel_bind (srel_askRoom _) fun ρ8 l8 _ _ _ => ?_
                  have hle := l4.trans (l5.trans (l6.trans (l7.trans l8)))
                  refine srel_bind (srel_firstCells m sl (hb3.mono hle) fun e => by cases e; rfl) fun ρ9 l9 old old' hold => ?_
                  refine srel_bind (srel_firstCells m n ((hx3.mono hle).mono l9) hn) fun ρ10 l10 new new' hnew => ?_
                  refine srel_bind (srel_zeroValue hz) fun ρ11 l11 z z' hzz => ?_
                  have hcells : RowRel ρ11 (old ++ new ++ Builtin.zeroCells z.cells (nc - (sl + n))) (old' ++ new' ++ Builtin.zeroCells z'.cells (nc - (sl + n))) := by
                    refine (((hold.mono l10).mono l11).append (hnew.mono l11)).append ?_
                    unfold Builtin.zeroCells
                    have := hzz.1.cells
                    rw [← this.1]
                    exact this.repeated _ _
                  exact srel_map (srel_newRow elem hcells) fun ρ12 l12 a b hab => .slice _ _ hab
          | sliceE ad =>
            refine srel_bind (srel_sizeOf elem) fun ρ2 l2 m m' hm => ?_
            obtain ⟨rfl, _⟩ := hm
            refine both _ _ ρ2 l2 fun ρ2' l2' => ?_
            have hxx := (hx1.mono l2).mono l2'
            have hbb : VRel ρ2' (.slice none 0 0) (.slice (some ad) 0 0) := .sliceE ad
            simp only [Bool.false_eq_true, if_false, Bool.not_false, if_true, false_or]
            refine srel_bind (srel_lenOf hxx) fun ρ3 l3 n n' hn => ?_
            obtain ⟨rfl, hn⟩ := hn
            have hx3 := hxx.mono l3
            have hb3 := hbb.mono l3
            split
            · rename_i hle0
              have hn0 : n = 0 := by omega
              subst hn0
              refine srel_bind (firstCells_none m hx3) fun ρ4 l4 new new' hnew => ?_
              obtain ⟨rfl, rfl⟩ := hnew
              exact .pure (.sliceE _)
            · refine srel_bind (srel_typeInfo elem) fun ρ4 l4 i i' hi => ?_
              obtain ⟨rfl, _⟩ := hi
              split
              · exact srel_bind (R := fun _ _ _ => False) (srel_rpanic (by trivial) (by trivial)) fun _ _ _ _ h => h.elim
              · refine srel_bind (srel_typeInfo elem) fun ρ5 l5 i i' hi => ?_
                obtain ⟨rfl, _⟩ := hi
                split
                · refine .dead ?_ _
                  refine Dead.bind ((passes_mayShare _ _ _ _ _).out _ fun b => ?_) _
                  cases b
                  · exact .mark _ (.halt _)
                  · exact .halt _
                · refine srel_bind (R := fun _ a b => a = b) (.choose _ fun z => .pure rfl) fun ρ6 l6 nc nc' hnc => ?_
                  subst hnc
                  refine srel_bind (srel_typeInfo elem) fun ρ7 l7 i i' hi => ?_
                  obtain ⟨rfl, _⟩ := hi
                  refine srel_bind (srel_askRoom _) fun ρ8 l8 _ _ _ => ?_
                  have hle := l4.trans (l5.trans (l6.trans (l7.trans l8)))
                  refine srel_bind (srel_firstCells m 0 (hb3.mono hle) fun e => by cases e; rfl) fun ρ9 l9 old old' hold => ?_
                  refine srel_bind (srel_firstCells m n ((hx3.mono hle).mono l9) hn) fun ρ10 l10 new new' hnew => ?_
                  refine srel_bind (srel_zeroValue hz) fun ρ11 l11 z z' hzz => ?_
                  have hcells : RowRel ρ11 (old ++ new ++ Builtin.zeroCells z.cells (nc - (0 + n))) (old' ++ new' ++ Builtin.zeroCells z'.cells (nc - (0 + n))) := by
                    refine (((hold.mono l10).mono l11).append (hnew.mono l11)).append ?_
                    unfold Builtin.zeroCells
                    have := hzz.1.cells
                    rw [← this.1]
                    exact this.repeated _ _
                  exact srel_map (srel_newRow elem hcells) fun ρ12 l12 a b hab => .slice _ _ hab
          | _ => exact .halt _ _
        | _ => exact .halt _ _
end
end Go.Proofs.Ytkodpijedinanaa.Sim

namespace Go.Proofs.Ytkodpijedinanaa.Sim
open Go
set_option linter.unusedVariables false
set_option linter.unusedSimpArgs false

section
variable {P : Program} {ρ : Ren}
theorem srel_mapM {α β : Type} (f : α → Sem β) (hf : ∀ ρ a, SemRel P (fun _ x y => x = y) ρ (f a) (f a)) (l : List α) : SemRel P (fun _ x y => x = y) ρ (l.mapM f) (l.mapM f) := by
  induction l generalizing ρ with
  | nil => exact .pure rfl
  | cons a l ih =>
    rw [List.mapM_cons]
    refine srel_bind (hf ρ a) fun ρ1 l1 x y hxy => ?_
    subst hxy
    exact srel_map ih fun ρ2 l2 x y hxy => by rw [hxy]
theorem srel_build (t : TypeId) {c d : Array (Nat × Value)} (h : PartsRel ρ c d) (hz : ZeroOk P t) (hs : ∃ fs, P.underlying t = some (.struct fs)) : SemRel P VRel ρ (Instr.build t c) (Instr.build t d) := by
  unfold Instr.build
  refine srel_bind (srel_zeroValue hz) fun ρ1 l1 z z' hzz => ?_
  refine srel_bind (srel_underlying t) fun ρ2 l2 a b hab => ?_
  obtain ⟨rfl, hu⟩ := hab
  obtain ⟨fs, hfs⟩ := hs
  rw [hfs] at hu
  cases hu
  have hm : SemRel P (fun _ x y => x = y) ρ2 (fs.mapM fun f => do pure (f.offset, ← sizeOf f.type)) (fs.mapM fun f => do pure (f.offset, ← sizeOf f.type)) := by
    rw [Array.mapM_eq_mapM_toList]
    exact srel_map (srel_mapM _ (fun ρ f => srel_map (srel_sizeOf f.type) fun ρ1 l1 a b hab => by rw [hab.1]) _) fun ρ3 l3 x y hxy => by rw [hxy]
  refine srel_bind hm fun ρ3 l3 x y hxy => ?_
  subst hxy
  have hp := h.mono (l1.trans (l2.trans l3))
  have hzc := (hzz.1.mono (l2.trans l3)).cells
  cases hf : Instr.fill (x[·]?) z.cells c.toList with
  | none => exact .halt _ _
  | some e =>
    obtain ⟨f, hf', hef⟩ := fill_rel (x[·]?) c.toList d.toList _ _ hzc (by simpa using hp.1) (fun i x y a b => hp.2 i x y (by simpa using a) (by simpa using b)) e hf
    rw [hf']
    exact .pure (.agg hef.1 hef.2)
theorem srel_convert {s t : TypeId} {k : IntKind} (ht : P.underlying t = some (.int k)) (hs : ∃ k', P.underlying s = some (.int k')) {v w : Value} (h : VRel ρ v w) : SemRel P VRel ρ (convert s t v) (convert s t w) := by
  unfold convert
  refine srel_bind (srel_underlying s) fun ρ1 l1 a b hab => ?_
  obtain ⟨rfl, hu⟩ := hab
  obtain ⟨k', hk'⟩ := hs
  rw [hk'] at hu
  cases hu
  refine srel_bind (srel_underlying t) fun ρ2 l2 a b hab => ?_
  obtain ⟨rfl, hu⟩ := hab
  rw [ht] at hu
  cases hu
  cases (h.mono (l1.trans l2)) <;> first
    | exact .halt _ _
    | exact .pure (.int _ _)
theorem srel_makeSlice (t : TypeId) {v w x y : Value} (h : VRel ρ v w) (k : VRel ρ x y) (hz : ∀ e, P.underlying t = some (.slice e) → ZeroOk P e) : SemRel P VRel ρ (Instr.makeSlice t v x) (Instr.makeSlice t w y) := by
  unfold Instr.makeSlice
  refine srel_bind (srel_underlying t) fun ρ1 l1 a b hab => ?_
  obtain ⟨rfl, hu⟩ := hab
  cases a with
  | slice elem =>
    have hz := hz elem hu
    refine srel_bind (srel_asInt (h.mono l1)) fun ρ2 l2 n n' hn => ?_
    subst hn
    refine srel_bind (srel_asInt (k.mono (l1.trans l2))) fun ρ3 l3 m m' hm => ?_
    subst hm
    refine srel_bind (srel_typeInfo elem) fun ρ4 l4 i i' hi => ?_
    obtain ⟨rfl, _⟩ := hi
    dsimp only
    split
    · split
      · exact srel_bind (R := fun _ _ _ => False) (srel_rpanic (by trivial) (by trivial)) fun _ _ _ _ h => h.elim
      · split
        · exact srel_bind (R := fun _ _ _ => False) (srel_rpanic (by trivial) (by trivial)) fun _ _ _ _ h => h.elim
        · refine srel_bind (R := fun _ a b => a = b) (.choose _ fun n => .pure rfl) fun ρ5 l5 a b hab => ?_
          subst hab
          exact srel_bind (R := fun _ _ _ => False) (srel_rpanic (e := .error _) (e' := .error _) trivial trivial) fun _ _ _ _ h => h.elim
    · refine srel_bind (srel_askRoom _) fun ρ5 l5 _ _ _ => ?_
      refine srel_bind (srel_sizeOf elem) fun ρ6 l6 sz sz' hsz => ?_
      obtain ⟨rfl, _⟩ := hsz
      have JP : ∀ ρ7, Ren.le ρ6 ρ7 → ∀ zero zero' : Array Value, RowRel ρ7 zero zero' → SemRel P VRel ρ7 (do
          let a ← newRow elem ((Array.range ((IntKind.i64.wrap m).toNat * sz)).map (zero[· % zero.size]!))
          pure (.slice (some a) (IntKind.i64.wrap n).toNat (IntKind.i64.wrap m).toNat)) (do
          let a ← newRow elem ((Array.range ((IntKind.i64.wrap m).toNat * sz)).map (zero'[· % zero'.size]!))
          pure (.slice (some a) (IntKind.i64.wrap n).toNat (IntKind.i64.wrap m).toNat)) := fun ρ7 l7 zero zero' hzz => by
        have hr := hzz.repeated ((IntKind.i64.wrap m).toNat * sz) fun x => x % zero.size
        rw [show (Array.map (fun x => zero'[x % zero.size]!) (Array.range ((IntKind.i64.wrap m).toNat * sz))) = Array.map (fun x => zero'[x % zero'.size]!) (Array.range ((IntKind.i64.wrap m).toNat * sz)) by rw [hzz.1]] at hr
        exact srel_map (srel_newRow elem hr) fun ρ8 l8 a b hab => .slice _ _ hab
      split
      · exact JP ρ6 (Ren.le.refl _) _ _ (RowRel.nil _)
      · refine srel_bind (srel_zeroValue hz) fun ρ7 l7 a b hab => ?_
        exact JP ρ7 l7 _ _ hab.1.cells
  | _ => exact .halt _ _
theorem srel_makeChan (t : TypeId) {v w : Value} (h : VRel ρ v w) : SemRel P VRel ρ (Instr.makeChan t v) (Instr.makeChan t w) := by
  unfold Instr.makeChan
  refine srel_bind (srel_asInt h) fun ρ1 l1 n n' hn => ?_
  subst hn
  refine srel_bind (srel_underlying t) fun ρ2 l2 a b hab => ?_
  obtain ⟨rfl, hu⟩ := hab
  cases a with
  | chan dir elem =>
    refine srel_bind (srel_typeInfo elem) fun ρ3 l3 i i' hi => ?_
    obtain ⟨rfl, _⟩ := hi
    split
    · exact srel_bind (R := fun _ _ _ => False) (srel_rpanic (by trivial) (by trivial)) fun _ _ _ _ h => h.elim
    · exact .new .chan fun r s _ _ => .pure (.chan (.inr ⟨rfl, rfl⟩))
  | _ => exact .halt _ _
theorem srel_fieldAt (s : TypeId) (f : Nat) {v w : Value} (h : VRel ρ v w) (hs : ∀ fs fl, P.underlying s = some (.struct fs) → fs[f]? = some fl → ∀ i, P.info? fl.type = some i → i.size ≠ 0) : SemRel P VRel ρ (Instr.fieldAt s v f) (Instr.fieldAt s w f) := by
  unfold Instr.fieldAt
  refine srel_bind (srel_underlying s) fun ρ1 l1 a b hab => ?_
  obtain ⟨rfl, hu⟩ := hab
  cases a with
  | struct fs =>
    dsimp only
    cases hf : fs[f]? with
    | none => exact .halt _ _
    | some fl =>
      have hs := hs fs fl hu hf
      refine srel_bind (srel_sureAddr (h.mono l1)) fun ρ2 l2 x y hxy => ?_
      refine srel_map (R := ARel) ?_ fun ρ3 l3 a b hab => .ptr hab
      unfold fieldPlace
      refine srel_bind (srel_sizeOf fl.type) fun ρ3 l3 n n' hn => ?_
      obtain ⟨rfl, i, hi, rfl⟩ := hn
      rw [if_neg (hs i hi), if_neg (hs i hi)]
      exact .pure ((hxy.mono l3).add _)
  | _ => exact .halt _ _
/-- What a borne operation comes to. -/
inductive NRel (ρ : Ren) : Next → Next → Prop
  | value {v w : Value} : VRel ρ v w → NRel ρ (.value v) (.value w)
  | skip : NRel ρ .skip .skip
  | enter (f : FuncId) {c d : Array Value} : f ∈ Fns.l → RowRel ρ c d → NRel ρ (.enter f c) (.enter f d)
def zeroB (P : Program) (t : TypeId) : Bool := match (P.info? t).bind (·.zero) with
  | some z => flatN 4 z
  | none => true
theorem zero_ok {t : TypeId} (h : zeroB P t = true) : ZeroOk P t := fun i z hi hz => by
  unfold zeroB at h
  rw [hi, Option.bind_some, hz] at h
  exact h
def sliceZeroB (P : Program) (t : TypeId) : Bool := match P.underlying t with
  | some (.slice e) => zeroB P e
  | _ => true
def intB (P : Program) (t : TypeId) : Bool := match P.underlying t with
  | some (.int _) => true
  | _ => false
def notCopyB (P : Program) (t : TypeId) : Bool := match ((P.info? t).map (·.desc) : Option TypeDesc) with
  | some (.named "sync.copyChecker" _) => false
  | _ => true
def okX : Operand → Bool
  | .tmp _ => true
  | .const v => flatN 4 v
  | .global _ => false
  | .func f => Fns.l.contains f
def fieldB (P : Program) (s : TypeId) (f : Nat) : Bool := match P.underlying s with
  | some (.struct fs) => match fs[f]? with
    | some fl => match P.info? fl.type with
      | some i => i.size != 0
      | none => true
    | none => true
  | _ => true
def okCall (P : Program) (c : Call) : Bool := c.args.all okX && match c.callee with
  | .value f => okX f
  | .builtin .len => (match c.argTypes[0]? with
    | some t => (match P.underlying t with
      | some (.chan _ _) => false
      | _ => true)
    | none => true)
  | .builtin .append => (match c.argTypes[1]? with
    | some t => !intB P t
    | none => true) && (match c.argTypes[0]? with
    | some t => sliceZeroB P t
    | none => true)
  | .builtin .min => true
  | _ => false
/-- The operations that are borne. -/
def okOp (P : Program) (o : Op) : Bool := match o with
  | .move x | .assign x => okX x
  | .pick c a b => okX c && okX a && okX b
  | .alloc t => zeroB P t
  | .box _ x => okX x
  | .build t ps => ps.all (fun p => okX p.2) && zeroB P t && (match P.underlying t with
    | some (.struct _) => true
    | _ => false)
  | .buildSlice t _ ps => ps.all (fun p => okX p.2) && sliceZeroB P t
  | .load _ a => okX a
  | .store _ a x => okX a && okX x
  | .binOp op t x y _ => okBin op && intB P t && notCopyB P t && okX x && okX y
  | .unOp .not _ x => okX x
  | .convert s t x => intB P s && intB P t && okX x
  | .makeFunc (.func f) xs ys => Fns.l.contains f && xs.all okX && ys.all okX
  | .makeChan _ x => okX x
  | .makeSlice t x y => sliceZeroB P t && okX x && okX y
  | .fieldAddr s x f => okX x && fieldB P s f
  | .indexAddr _ x y => okX x && okX y
  | .extract x _ => okX x
  | .call c => okCall P c
  | _ => false
end
end Go.Proofs.Ytkodpijedinanaa.Sim

namespace Go.Proofs.Ytkodpijedinanaa.Sim
open Go
set_option linter.unusedVariables false
set_option linter.unusedSimpArgs false

section
variable {P : Program} {ρ : Ren} {e e' : Operand → Value}
/-- The functions that may be come to have bodies. -/
def FnsOk (P : Program) : Prop := ∀ f ∈ Fns.l, ∃ fn, P.funcs[f]? = some fn ∧ fn.body.isSome ∧ fn.name ≠ "runtime.NumGoroutine"
theorem rows_map {c : Array Operand} (H : ∀ x, okX x = true → VRel ρ (e x) (e' x)) (hc : c.all okX = true) : RowRel ρ (c.map e) (c.map e') := by
  refine ⟨by simp, fun i v w hv hw => ?_⟩
  simp only [Array.getElem?_map, Option.map_eq_some_iff] at hv hw
  obtain ⟨x, hx, rfl⟩ := hv
  obtain ⟨y, hy, rfl⟩ := hw
  rw [hx] at hy
  cases hy
  obtain ⟨hi, rfl⟩ := Array.getElem?_eq_some_iff.1 hx
  rw [Array.all_eq_true] at hc
  exact H _ (hc i hi)
theorem parts_map {c : Array (Nat × Operand)} (H : ∀ x, okX x = true → VRel ρ (e x) (e' x)) (hc : c.all (fun p => okX p.2) = true) : PartsRel ρ (c.map fun (i, x) => (i, e x)) (c.map fun (i, x) => (i, e' x)) := by
  refine ⟨by simp, fun i v w hv hw => ?_⟩
  simp only [Array.getElem?_map, Option.map_eq_some_iff] at hv hw
  obtain ⟨x, hx, rfl⟩ := hv
  obtain ⟨y, hy, rfl⟩ := hw
  rw [hx] at hy
  cases hy
  obtain ⟨hi, rfl⟩ := Array.getElem?_eq_some_iff.1 hx
  rw [Array.all_eq_true] at hc
  exact ⟨rfl, H _ (hc i hi)⟩
theorem srel_value {s s' : Sem Value} (h : SemRel P VRel ρ s s') : SemRel P NRel ρ (do pure (.value (← s))) (do pure (.value (← s'))) := srel_map h fun _ _ _ _ h => .value h
theorem srel_unit {R : Ren → Unit → Unit → Prop} {s s' : Sem Unit} (h : SemRel P R ρ s s') : SemRel P NRel ρ (do s; pure .skip) (do s'; pure .skip) := srel_map h fun _ _ _ _ _ => .skip
theorem srel_callFunc (hF : FnsOk P) {f : FuncId} (hf : f ∈ Fns.l) {c d : Array Value} (h : RowRel ρ c d) : SemRel P NRel ρ (callFunc f c) (callFunc f d) := by
  obtain ⟨fn, h1, h2, h3⟩ := hF f hf
  unfold callFunc
  refine srel_bind srel_program fun ρ1 l1 p q hpq => ?_
  obtain ⟨rfl, rfl⟩ := hpq
  rw [h1]
  dsimp only
  have hb : fn.body.isNone = false := by cases hq : fn.body <;> simp_all
  have hn : (fn.name == "runtime.NumGoroutine") = false := by simpa using h3
  rw [hn, hb]
  exact .pure (.enter f hf (h.mono l1))
theorem srel_call (hF : FnsOk P) {c : Call} (ty : TypeId) (hc : okCall P c = true) (H : ∀ x, okX x = true → VRel ρ (e x) (e' x)) :
    SemRel P NRel ρ (do let d ← resolve e c ty; invoke d.target d.args) (do let d ← resolve e' c ty; invoke d.target d.args) := by
  unfold okCall at hc
  rw [Bool.and_eq_true] at hc
  obtain ⟨ha, hc⟩ := hc
  have hr := rows_map H ha
  unfold resolve
  cases hcal : c.callee with
  | value f =>
    rw [hcal] at hc
    have hv := H f hc
    dsimp only
    generalize e f = v at hv
    generalize e' f = w at hv
    cases hv with
    | func g hg h1 h2 h3 h4 => exact srel_callFunc hF hg (RowRel.append (RowRel.append ⟨h1, h2⟩ hr) ⟨h3, h4⟩)
    | nilFunc => exact srel_rpanic (e := .nilDeref) (e' := .nilDeref) trivial trivial
    | _ => exact .halt _ _
  | builtin b =>
    rw [hcal] at hc
    cases b with
    | len =>
      refine srel_value (srel_len _ _ hr fun t ht x y hu => ?_)
      dsimp only at hc
      rw [ht] at hc
      dsimp only at hc
      rw [hu] at hc
      cases hc
    | append =>
      dsimp only at hc
      rw [Bool.and_eq_true] at hc
      refine srel_value (srel_append _ _ hr (fun t ht k hu => ?_) fun t y ht hu => ?_)
      · have := hc.1
        rw [ht] at this
        simp [intB, hu] at this
      · have := hc.2
        rw [ht] at this
        simp only [sliceZeroB, hu] at this
        exact zero_ok this
    | min => exact srel_value (srel_min _ _ hr)
    | _ => cases hc
  | invoke r n => rw [hcal] at hc; cases hc
theorem srel_guardIn {t : TypeId} {k : IntKind} (ht : P.underlying t = some (.int k)) (v w x y : Value) : SemRel P (fun _ (a b : Bool) => a = false ∧ b = false) ρ (Op.eqGuardIn Op.maxDepth t v x) (Op.eqGuardIn Op.maxDepth t w y) := by
  unfold Op.maxDepth Op.eqGuardIn
  refine srel_bind (srel_underlying t) fun ρ1 l1 a b hab => ?_
  obtain ⟨rfl, hu⟩ := hab
  rw [ht] at hu
  cases hu
  exact .pure ⟨rfl, rfl⟩
theorem srel_eqGuard (op : BinOp) {t : TypeId} {k : IntKind} (ht : P.underlying t = some (.int k)) (X Y : Operand) {v w x y : Value} (h : VRel ρ v w) (h' : VRel ρ x y) : SemRel P (fun _ _ _ => True) ρ (eqGuard op t X Y v x) (eqGuard op t X Y w y) := by
  unfold eqGuard
  have hg := srel_guardIn (P := P) (ρ := ρ) ht v w x y
  cases op <;> first
    | exact .pure trivial
    | skip
  all_goals (
    simp only [Bool.not_true, Bool.false_eq_true, if_false]
    cases h <;> cases h' <;> first
      | exact .pure trivial
      | (dsimp only
         cases X <;> cases Y <;> first
           | exact .pure trivial
           | (refine srel_bind hg fun ρ1 l1 a b hab => ?_
              obtain ⟨rfl, rfl⟩ := hab
              exact .pure trivial))
      | (dsimp only
         refine srel_bind srel_program fun ρ1 l1 p q hpq => ?_
         obtain ⟨rfl, rfl⟩ := hpq
         refine srel_bind srel_program fun ρ2 l2 p q hpq => ?_
         obtain ⟨rfl, rfl⟩ := hpq
         split
         · exact .pure trivial
         · refine srel_bind (srel_guardIn ht _ _ _ _) fun ρ1 l1 a b hab => ?_
           obtain ⟨rfl, rfl⟩ := hab
           exact .pure trivial))
theorem int_of {t : TypeId} (h : intB P t = true) : ∃ k, P.underlying t = some (.int k) := by
  unfold intB at h
  split at h
  · exact ⟨_, by assumption⟩
  · cases h
theorem slice_zero {t : TypeId} (h : sliceZeroB P t = true) : ∀ x, P.underlying t = some (.slice x) → ZeroOk P x := fun x hx => by
  simp only [sliceZeroB, hx] at h
  exact zero_ok h
theorem srel_op (hF : FnsOk P) (hA : Above P ρ) {o : Oper} (ho : okOp P o.op = true) (H : ∀ x, okX x = true → VRel ρ (e x) (e' x)) : SemRel P NRel ρ (execOp e o) (execOp e' o) := by
  unfold execOp
  unfold okOp at ho
  cases hop : o.op with
  | move x => rw [hop] at ho; exact .pure (.value (H x ho))
  | assign x => rw [hop] at ho; exact .pure (.value (H x ho))
  | pick c a b =>
    rw [hop] at ho
    simp only [Bool.and_eq_true] at ho
    refine srel_map (srel_asBool (H c ho.1.1)) fun ρ1 l1 x y hxy => ?_
    subst hxy
    split
    · exact .value ((H a ho.1.2).mono l1)
    · exact .value ((H b ho.2).mono l1)
  | alloc t => rw [hop] at ho; exact srel_value (srel_alloc t (zero_ok ho))
  | box t x => rw [hop] at ho; exact srel_value (srel_box t (H x ho))
  | build t ps =>
    rw [hop] at ho
    simp only [Bool.and_eq_true] at ho
    refine srel_value (srel_build t (parts_map H ho.1.1) (zero_ok ho.1.2) ?_)
    have := ho.2
    split at this
    · exact ⟨_, by assumption⟩
    · cases this
  | buildSlice t n ps =>
    rw [hop] at ho
    simp only [Bool.and_eq_true] at ho
    exact srel_value (srel_buildSlice t n (parts_map H ho.1) (slice_zero ho.2))
  | load t a => rw [hop] at ho; exact srel_value (srel_loadAt t (H a ho))
  | store t a x =>
    rw [hop] at ho
    simp only [Bool.and_eq_true] at ho
    exact srel_unit (srel_storeAt t (H a ho.1) (H x ho.2))
  | binOp op t x y z =>
    rw [hop] at ho
    simp only [Bool.and_eq_true] at ho
    obtain ⟨k, hk⟩ := int_of ho.1.1.1.2
    have hx := H x ho.1.2
    have hy := H y ho.2
    have hcp : ∀ i, P.info? t = some i → ∀ u, i.desc ≠ .named "sync.copyChecker" u := fun i hi u hu => by
      have := ho.1.1.2
      simp [notCopyB, hi, hu] at this
    refine srel_value ?_
    refine srel_bindA hA (srel_eqGuard op hk x y hx hy) fun ρ1 l1 hA1 _ _ _ => ?_
    exact srel_binOp ho.1.1.1.1 hk hcp hA1 (hx.mono l1) (hy.mono l1)
  | unOp op t x =>
    rw [hop] at ho
    cases op with
    | not => exact srel_value (srel_not (H x ho))
    | _ => cases ho
  | convert s t x =>
    rw [hop] at ho
    simp only [Bool.and_eq_true] at ho
    obtain ⟨k, hk⟩ := int_of ho.1.2
    exact srel_value (srel_convert hk (int_of ho.1.1) (H x ho.2))
  | makeFunc fn xs ys =>
    rw [hop] at ho
    cases fn with
    | func f =>
      simp only [Bool.and_eq_true] at ho
      have h1 := rows_map H ho.1.2
      have h2 := rows_map H ho.2
      exact srel_value (.pure (.func f (by simpa using ho.1.1) h1.1 h1.2 h2.1 h2.2))
    | _ => cases ho
  | makeChan t x => rw [hop] at ho; exact srel_value (srel_makeChan t (H x ho))
  | makeSlice t x y =>
    rw [hop] at ho
    simp only [Bool.and_eq_true] at ho
    exact srel_value (srel_makeSlice t (H x ho.1.2) (H y ho.2) (slice_zero ho.1.1))
  | fieldAddr s x f =>
    rw [hop] at ho
    simp only [Bool.and_eq_true] at ho
    refine srel_value (srel_fieldAt s f (H x ho.1) fun fs fl h1 h2 i hi => ?_)
    have := ho.2
    simp only [fieldB, h1, h2, hi] at this
    simpa using this
  | indexAddr t x y =>
    rw [hop] at ho
    simp only [Bool.and_eq_true] at ho
    exact srel_value (srel_indexAt t (H x ho.1) (H y ho.2))
  | extract x i => rw [hop] at ho; exact srel_value (srel_extract i (H x ho))
  | call c => rw [hop] at ho; exact srel_call hF o.type ho H
  | _ => rw [hop] at ho; cases ho
end
end Go.Proofs.Ytkodpijedinanaa.Sim

namespace Go.Proofs.Ytkodpijedinanaa.Sim
open Go
set_option linter.unusedVariables false
set_option linter.unusedSimpArgs false

/-- The world with this tape, of which d answers are taken. -/
def lay (w : World) (τ : Nat → Question → Nat) (d : Nat) : World := { w with tape := τ, drawn := d }
theorem lay_heap (w : World) (τ : Nat → Question → Nat) (d : Nat) : (lay w τ d).heap = w.heap := rfl
theorem lay_lay (w : World) (τ τ' : Nat → Question → Nat) (d d' : Nat) : lay (lay w τ d) τ' d' = lay w τ' d' := rfl
theorem WRel.lay {ρ : Ren} {w W : World} (h : WRel ρ w W) (τ : Nat → Question → Nat) (d : Nat) : WRel ρ (lay w τ d) W := ⟨h.dom, h.fn, h.inj⟩
theorem WRel.lay' {ρ : Ren} {w W : World} (h : WRel ρ w W) (τ : Nat → Question → Nat) (d : Nat) : WRel ρ w (Sim.lay W τ d) := ⟨h.dom, h.fn, h.inj⟩
theorem Dead.soft {α : Type} {P : Program} {s : Sem α} (h : Dead P s) : ∀ (w : World) (x : Halt) (w1 : World), s.run P w = .halt x w1 → softB x = true := by
  induction h with
  | halt h hs => intro w x w1 e; simp only [Sem.run, Result.halt.injEq] at e; rw [← e.1]; exact hs
  | mark m _ ih => intro w a w1 e; simp only [Sem.run] at e; exact ih w a w1 e
  | shape r _ ih => intro w a w1 e; simp only [Sem.run] at e; exact ih _ w a w1 e
  | frozen r _ ih => intro w a w1 e; simp only [Sem.run] at e; exact ih _ w a w1 e
  | choose q _ ih =>
    intro w a w1 e
    simp only [Sem.run] at e
    split at e
    · exact ih _ w a w1 e
    · exact ih _ _ a w1 e
  | program _ ih => intro w a w1 e; simp only [Sem.run] at e; exact ih w a w1 e
theorem WRel.farSoft {ρ : Ren} {w W : World} (h : WRel ρ w W) {a b : Addr} (hab : ARel ρ a b) (P : Program) (m : Bool) : ∃ s, w.farLoad P a m = .error (.stuck s) := by
  obtain ⟨o, o', h1, h2, h3⟩ := h.dom _ _ hab.1
  unfold World.farLoad World.noCell
  rw [h1]
  cases h3 <;> exact ⟨_, rfl⟩
theorem WRel.farSoftS {ρ : Ren} {w W : World} (h : WRel ρ w W) {a b : Addr} (hab : ARel ρ a b) (P : Program) (v : Value) (m : Bool) : ∃ s, w.farStore P a v m = .error (.stuck s) := by
  obtain ⟨o, o', h1, h2, h3⟩ := h.dom _ _ hab.1
  unfold World.farStore World.noCell
  rw [h1]
  cases h3 <;> exact ⟨_, rfl⟩
/-- How a matched piece halts. -/
theorem SemRel.soft {α β : Type} {P : Program} {R : Ren → α → β → Prop} {ρ : Ren} {s : Sem α} {s' : Sem β} (h : SemRel P R ρ s s') :
    ∀ (w W : World) (x : Halt) (w1 : World), WRel ρ w W → P.globals.size ≤ w.heap.size → P.globals.size ≤ W.heap.size → s.run P w = .halt x w1 → softB x = true := by
  induction h with
  | pure h => intro w W x w1 hw hg hG e; simp [Sem.run] at e
  | @load ρ a b k k' hab hk ih =>
    intro w W x w1 hw hg hG e
    simp only [Sem.run] at e
    split at e
    · rename_i v hv
      obtain ⟨u, hu, hvu⟩ := hw.cell hab hv
      exact ih v u hvu w W x w1 hw hg hG e
    · obtain ⟨s, hs⟩ := hw.farSoft hab P (Mode.plain == Mode.atomic)
      rw [hs] at e
      simp only [Result.halt.injEq] at e
      rw [← e.1]; rfl
  | @store ρ a b v u k k' hab hvu hk ih =>
    intro w W x w1 hw hg hG e
    cases v <;> simp only [Sem.run] at e <;> first
      | (simp only [Result.halt.injEq] at e; rw [← e.1]; rfl)
      | (split at e
         · split at e
           · simp only [Result.halt.injEq] at e; rw [← e.1]; rfl
           · exact ih (w.setCell a _) (W.setCell b u) x w1 (hw.set hab hvu) (by rw [setCell_size]; exact hg) (by rw [setCell_size]; exact hG) e
         · obtain ⟨s, hs⟩ := hw.farSoftS hab P _ (Mode.plain == Mode.atomic)
           rw [hs] at e
           simp only [Result.halt.injEq] at e
           rw [← e.1]; rfl)
  | @new ρ o o' k k' ho hk ih =>
    intro w W x w1 hw hg hG e
    simp only [Sem.run] at e
    exact ih w.heap.size W.heap.size hg hG { w with heap := w.heap.push o } { W with heap := W.heap.push o' } x w1 (hw.new ho) (by simp; omega) (by simp; omega) e
  | @choose ρ q k k' hk ih =>
    intro w W x w1 hw hg hG e
    simp only [Sem.run] at e
    split at e
    · exact ih 0 w W x w1 hw hg hG e
    · exact ih _ { w with drawn := w.drawn + 1 } W x w1 ⟨hw.dom, hw.fn, hw.inj⟩ hg hG e
  | @program ρ k k' hk ih => intro w W x w1 hw hg hG e; simp only [Sem.run] at e; exact ih w W x w1 hw hg hG e
  | @shape ρ r r' k k' hρ hk ih => intro w W x w1 hw hg hG e; simp only [Sem.run] at e; exact ih _ w W x w1 hw hg hG e
  | @getObj ρ r r' k k' hρ hk ih =>
    intro w W x w1 hw hg hG e
    obtain ⟨o, o', q1, q2, q3⟩ := hw.dom _ _ hρ
    simp only [Sem.run, q1] at e
    have q3' := q3
    cases q3 with
    | cells => simp only [Result.halt.injEq] at e; rw [← e.1]; rfl
    | number l hl => exact ih _ _ q3' w W x w1 hw hg hG e
    | chan => exact ih _ _ q3' w W x w1 hw hg hG e
  | @noRoom ρ k k' hk ih => intro w W x w1 hw hg hG e; simp only [Sem.run] at e; exact ih w W x w1 hw hg hG e
  | halt h s hs => intro w W x w1 hw hg hG e; simp only [Sem.run, Result.halt.injEq] at e; rw [← e.1]; exact hs
  | dead h s => intro w W x w1 hw hg hG e; exact h.soft w x w1 e
/-- A matched piece hangs on the tape by what it draws alone. -/
theorem SemRel.local {α β : Type} {P : Program} {R : Ren → α → β → Prop} {ρ : Ren} {s : Sem α} {s' : Sem β} (h : SemRel P R ρ s s') (τ : Nat → Question → Nat) :
    ∀ (w W : World) (d : Nat) (x : α) (w1 : World), WRel ρ w W → P.globals.size ≤ w.heap.size → P.globals.size ≤ W.heap.size → s.run P w = .ok x w1 →
      (∀ n, n < w1.drawn - w.drawn → ∀ q, w.tape (w.drawn + n) q = τ (d + n) q) → s.run P (lay w τ d) = .ok x (lay w1 τ (d + (w1.drawn - w.drawn))) := by
  induction h with
  | pure h =>
    intro w W d x w1 hw hg hG e al
    simp only [Sem.run, Result.ok.injEq] at e
    obtain ⟨rfl, rfl⟩ := e
    simp [Sem.run]
  | @load ρ a b k k' hab hk ih =>
    intro w W d x w1 hw hg hG e al
    simp only [Sem.run] at e
    split at e
    · rename_i v hv
      obtain ⟨u, hu, hvu⟩ := hw.cell hab hv
      have := ih v u hvu w W d x w1 hw hg hG e al
      simp only [Sem.run]
      rw [show (lay w τ d).cell? a = w.cell? a from rfl, hv]
      exact this
    · obtain ⟨s, hs⟩ := hw.farSoft hab P (Mode.plain == Mode.atomic)
      rw [hs] at e
      cases e
  | @store ρ a b v u k k' hab hvu hk ih =>
    intro w W d x w1 hw hg hG e al
    cases v <;> simp only [Sem.run] at e <;> first
      | (cases e; done)
      | (split at e
         · rename_i c hc
           split at e
           · cases e
           · rename_i hf
             have := ih (w.setCell a _) (W.setCell b u) d x w1 (hw.set hab hvu) (by rw [setCell_size]; exact hg) (by rw [setCell_size]; exact hG) e al
             simp only [Sem.run]
             rw [show (lay w τ d).cell? a = w.cell? a from rfl, hc, show (lay w τ d).frozen? a = w.frozen? a from rfl]
             simp only [hf]
             exact this
         · obtain ⟨s, hs⟩ := hw.farSoftS hab P _ (Mode.plain == Mode.atomic)
           rw [hs] at e
           cases e)
  | @new ρ o o' k k' ho hk ih =>
    intro w W d x w1 hw hg hG e al
    simp only [Sem.run] at e ⊢
    exact ih w.heap.size W.heap.size hg hG { w with heap := w.heap.push o } { W with heap := W.heap.push o' } d x w1 (hw.new ho) (by simp; omega) (by simp; omega) e al
  | @choose ρ q k k' hk ih =>
    intro w W d x w1 hw hg hG e al
    simp only [Sem.run] at e ⊢
    split at e
    · rename_i hq
      rw [if_pos hq]
      exact ih 0 w W d x w1 hw hg hG e al
    · rename_i hq
      rw [if_neg hq]
      have hge : w.drawn + 1 ≤ w1.drawn := drawn_le (k _) _ _ _ e
      have h0 := al 0 (by omega) q
      rw [Nat.add_zero, Nat.add_zero] at h0
      have := ih (q.cut (w.tape w.drawn q)) { w with drawn := w.drawn + 1 } W (d + 1) x w1 ⟨hw.dom, hw.fn, hw.inj⟩ hg hG e fun n hn q' => by
        have := al (n + 1) (by show n + 1 < w1.drawn - w.drawn; simp only at hn; omega) q'
        show w.tape (w.drawn + 1 + n) q' = τ (d + 1 + n) q'
        rw [show w.drawn + 1 + n = w.drawn + (n + 1) by omega, show d + 1 + n = d + (n + 1) by omega]
        exact this
      rw [show (lay w τ d).drawn = d from rfl, show (lay w τ d).tape d q = τ d q from rfl, ← h0]
      refine Eq.trans this ?_
      congr 2
      show d + 1 + (w1.drawn - (w.drawn + 1)) = d + (w1.drawn - w.drawn)
      omega
  | @program ρ k k' hk ih => intro w W d x w1 hw hg hG e al; simp only [Sem.run] at e ⊢; exact ih w W d x w1 hw hg hG e al
  | @shape ρ r r' k k' hρ hk ih => intro w W d x w1 hw hg hG e al; simp only [Sem.run] at e ⊢; exact ih _ w W d x w1 hw hg hG e al
  | @getObj ρ r r' k k' hρ hk ih =>
    intro w W d x w1 hw hg hG e al
    obtain ⟨o, o', q1, q2, q3⟩ := hw.dom _ _ hρ
    have q1' : (lay w τ d).heap[r]? = some o := q1
    simp only [Sem.run, q1] at e
    simp only [Sem.run, q1']
    have q3' := q3
    cases q3 with
    | cells => cases e
    | number l hl => exact ih _ _ q3' w W d x w1 hw hg hG e al
    | chan => exact ih _ _ q3' w W d x w1 hw hg hG e al
  | @noRoom ρ k k' hk ih => intro w W d x w1 hw hg hG e al; simp only [Sem.run] at e ⊢; exact ih w W d x w1 hw hg hG e al
  | halt h s hs => intro w W d x w1 hw hg hG e al; simp only [Sem.run] at e; cases e
  | dead h s => intro w W d x w1 hw hg hG e al; exact absurd e (h.run w x w1)
end Go.Proofs.Ytkodpijedinanaa.Sim
