/- Texts that the claim imports, laid together: MaD MaE MaF MaG MaQ. No statement of their own. -/
import Derived.Test.YtkodpijedinanaaKaa
namespace Go.Proofs.Ytkodpijedinanaa.Sim
open Go
set_option linter.unusedVariables false
set_option linter.unusedSimpArgs false

section
variable {P : Program} {ρ : Ren}
theorem srel_intArith (op : BinOp) (k : IntKind) (a b : Int) : SemRel P VRel ρ (Op.intArith op k a b) (Op.intArith op k a b) := by
  unfold Op.intArith
  cases op <;> first | exact .pure (.int _ _) | exact .halt _ _
theorem srel_intCmp (op : BinOp) (a b : Int) : SemRel P VRel ρ (Op.intCmp op a b) (Op.intCmp op a b) := by
  unfold Op.intCmp
  cases op <;> first | exact .pure (.bool _) | exact .halt _ _
theorem srel_stringOp (op : BinOp) (a b : ByteArray) : SemRel P VRel ρ (Op.stringOp op a b) (Op.stringOp op a b) := by
  unfold Op.stringOp
  cases op <;> first
    | exact .pure (.bool _)
    | exact .halt _ _
    | (dsimp only; split
       · exact .halt _ _
       · exact .pure (.string _))
theorem srel_shift (op : BinOp) (k k' : IntKind) (a b : Int) : SemRel P VRel ρ (Op.shift op k a k' b) (Op.shift op k a k' b) := by
  unfold Op.shift
  split
  · exact srel_rpanic (by trivial) (by trivial)
  · cases op <;> first | exact .pure (.int _ _) | exact .halt _ _
theorem sem_pure {α : Type} (s : Sem α) : s.bind .pure = s := by
  induction s with
  | pure a => rfl
  | halt h => rfl
  | load m a k ih => simp only [Sem.bind, ih]
  | store m a v k ih => simp only [Sem.bind, ih]
  | new o k ih => simp only [Sem.bind, ih]
  | shape r k ih => simp only [Sem.bind, ih]
  | freeze a n k ih => simp only [Sem.bind, ih]
  | frozen a k ih => simp only [Sem.bind, ih]
  | getObj r k ih => simp only [Sem.bind, ih]
  | setObj r o k ih => simp only [Sem.bind, ih]
  | choose q k ih => simp only [Sem.bind, ih]
  | sys c k ih => simp only [Sem.bind, ih]
  | program k ih => simp only [Sem.bind, ih]
  | mark m k ih => simp only [Sem.bind, ih]
theorem SemRel.look {α β : Type} {R : Ren → α → β → Prop} {p : Sem α} {p' : Sem β} (h1 : Looks P p) (h2 : SoftS P p) (h3 : Same P ρ (R ρ) p p') : SemRel P R ρ p p' := by
  have := SemRel.looks (R := R) h1 h2 h3 (k := Sem.pure) (k' := Sem.pure) fun x y h => .pure h
  rwa [sem_pure, sem_pure] at this
/-- What numberAt sees. -/
def numO : Obj → Option (Addr × Bool)
  | .number a l => some (a, l)
  | _ => none
def viewO : Obj → Option (Addr × TypeId)
  | .view a l => some (a, l)
  | _ => none
def isRowO : Obj → Bool
  | .cells _ _ _ => true
  | _ => false
theorem run_numberAt {w : World} {r : Nat} {o : Obj} (h : w.heap[r]? = some o) : (numberAt r).run P w = .ok (numO o) w ∧ ∀ es : Array Event, (numberAt r).runT P w es = (.ok (numO o) w, es ++ (if isRowO o then [] else [⟨.obj r, false, o.isChan⟩] : List Event).toArray) := by
  unfold numberAt shape getObj
  constructor
  · cases o <;> simp [Bind.bind, Sem.bind, Sem.run, World.shape?, h, numO, pure]
  · intro es
    cases o <;> simp [-Sem.runT_eq, Bind.bind, Sem.bind, Sem.runT, World.shape?, h, numO, pure, isRowO]
theorem run_numberAt_none {w : World} {r : Nat} (h : w.heap[r]? = none) : (numberAt r).run P w = .halt (.stuck "getObj: no such block") w := by
  unfold numberAt shape getObj
  simp [Bind.bind, Sem.bind, Sem.run, World.shape?, h]
theorem run_viewAt {w : World} {r : Nat} {o : Obj} (h : w.heap[r]? = some o) : (viewAt r).run P w = .ok (viewO o) w ∧ ∀ es : Array Event, (viewAt r).runT P w es = (.ok (viewO o) w, es ++ (if isRowO o then [] else [⟨.obj r, false, o.isChan⟩] : List Event).toArray) := by
  unfold viewAt shape getObj
  constructor
  · cases o <;> simp [Bind.bind, Sem.bind, Sem.run, World.shape?, h, viewO, pure]
  · intro es
    cases o <;> simp [-Sem.runT_eq, Bind.bind, Sem.bind, Sem.runT, World.shape?, h, viewO, pure, isRowO]
theorem run_viewAt_none {w : World} {r : Nat} (h : w.heap[r]? = none) : (viewAt r).run P w = .halt (.stuck "getObj: no such block") w := by
  unfold viewAt shape getObj
  simp [Bind.bind, Sem.bind, Sem.run, World.shape?, h]
theorem looks_numberAt (r : Nat) : Looks P (numberAt r) ∧ SoftS P (numberAt r) := by
  constructor
  · intro w x w1 h
    cases ho : w.heap[r]? with
    | none => rw [run_numberAt_none ho] at h; cases h
    | some o =>
      rw [(run_numberAt ho).1] at h
      cases h
      exact ⟨rfl, fun w' hw => (run_numberAt (by rw [hw]; exact ho)).1⟩
  · intro w x w1 h
    cases ho : w.heap[r]? with
    | none => rw [run_numberAt_none ho] at h; cases h; rfl
    | some o => rw [(run_numberAt ho).1] at h; cases h
theorem looks_viewAt (r : Nat) : Looks P (viewAt r) ∧ SoftS P (viewAt r) := by
  constructor
  · intro w x w1 h
    cases ho : w.heap[r]? with
    | none => rw [run_viewAt_none ho] at h; cases h
    | some o =>
      rw [(run_viewAt ho).1] at h
      cases h
      exact ⟨rfl, fun w' hw => (run_viewAt (by rw [hw]; exact ho)).1⟩
  · intro w x w1 h
    cases ho : w.heap[r]? with
    | none => rw [run_viewAt_none ho] at h; cases h; rfl
    | some o => rw [(run_viewAt ho).1] at h; cases h
theorem objEv_one {r r' : Nat} (o : Obj) (h : ρ r r') : ObjEv ρ (if isRowO o then [] else [⟨.obj r', false, o.isChan⟩] : List Event) := by
  intro e he
  split at he
  · cases he
  · simp only [List.mem_singleton] at he
    exact ⟨r', o.isChan, r, he, h⟩
theorem srel_behind {a b : Addr} (hab : Above P ρ) (h : ARel ρ a b) : SemRel P (fun ρ x y => ARel ρ x.1 y.1 ∧ x.2 = y.2 ∧ P.globals.size ≤ x.1.block) ρ (behindNumber a) (behindNumber b) := by
  unfold behindNumber
  have hn : SemRel P (fun ρ (x y : Option (Addr × Bool)) => (x = none ∧ y = none) ∨ ∃ p q l, x = some (p, l) ∧ y = some (q, l) ∧ ARel ρ p q ∧ P.globals.size ≤ p.block) ρ (numberAt a.block) (numberAt b.block) := by
    refine .look (looks_numberAt _).1 (looks_numberAt _).2 fun w W x w1 hw hr => ?_
    obtain ⟨o, o', h1, h2, h3⟩ := hw.dom _ _ h.1
    rw [(run_numberAt h1).1] at hr
    cases hr
    refine ⟨_, _, (run_numberAt h2).2, objEv_one o' h.1, ?_⟩
    cases h3 with
    | cells => exact .inl ⟨rfl, rfl⟩
    | chan => exact .inl ⟨rfl, rfl⟩
    | opq => exact .inl ⟨rfl, rfl⟩
    | number l hl => exact .inr ⟨_, _, l, rfl, rfl, hl, (hab _ _ hl.1)⟩
  refine srel_map hn fun ρ' hl x y hxy => ?_
  rcases hxy with ⟨rfl, rfl⟩ | ⟨p, q, l, rfl, rfl, hpq, hp⟩
  · exact ⟨h.mono hl, rfl, (hab _ _ h.1)⟩
  · exact ⟨hpq, rfl, hp⟩
theorem srel_twoPlaces {R : Ren → Nat × Nat → Nat × Nat → Prop} {a b a' b' : Addr} (h : P.globals.size ≤ a.block) : SemRel P R ρ (Op.twoPlaces a b) (Op.twoPlaces a' b') := by
  unfold Op.twoPlaces
  refine srel_bind srel_program fun ρ' _ p q hpq => ?_
  obtain ⟨rfl, rfl⟩ := hpq
  rw [if_pos (by simp [h])]
  exact .halt _ _
/-- A comparison of addresses is borne at variables of the program alone. -/
theorem srel_addrCmp (op : BinOp) {a b a' b' : Addr} (hab : Above P ρ) (h : ARel ρ a a') (k : ARel ρ b b') :
    SemRel P VRel ρ (do Op.addrCmp op (← behindNumber a).1 (← behindNumber b).1) (do Op.addrCmp op (← behindNumber a').1 (← behindNumber b').1) := by
  refine srel_bindA hab (srel_behind hab h) fun ρ1 l1 hA1 x y hxy => ?_
  refine srel_bindA hA1 (srel_behind hA1 (k.mono l1)) fun ρ2 l2 hA2 x2 y2 hxy2 => ?_
  unfold Op.addrCmp
  exact srel_bind (R := fun _ _ _ => False) (srel_twoPlaces hxy.2.2) fun _ _ _ _ h => h.elim
theorem srel_addrSub (k0 : IntKind) {a b a' b' : Addr} (hab : Above P ρ) (h : ARel ρ a a') (k : ARel ρ b b') :
    SemRel P VRel ρ (do Op.addrSub k0 (← behindNumber a).1 (← behindNumber b).1) (do Op.addrSub k0 (← behindNumber a').1 (← behindNumber b').1) := by
  refine srel_bindA hab (srel_behind hab h) fun ρ1 l1 hA1 x y hxy => ?_
  refine srel_bindA hA1 (srel_behind hA1 (k.mono l1)) fun ρ2 l2 hA2 x2 y2 hxy2 => ?_
  unfold Op.addrSub
  exact srel_bind (R := fun _ _ _ => False) (srel_twoPlaces hxy.2.2) fun _ _ _ _ h => h.elim
theorem srel_viewAt {a b : Addr} (h : ARel ρ a b) : SemRel P (fun _ (x y : Option (Addr × TypeId)) => y = none) ρ (viewAt a.block) (viewAt b.block) := by
  refine .look (looks_viewAt _).1 (looks_viewAt _).2 fun w W x w1 hw hr => ?_
  obtain ⟨o, o', h1, h2, h3⟩ := hw.dom _ _ h.1
  rw [(run_viewAt h1).1] at hr
  cases hr
  refine ⟨_, _, (run_viewAt h2).2, objEv_one o' h.1, ?_⟩
  cases h3 <;> rfl
theorem srel_noView {a b : Addr} (h : ARel ρ a b) : SemRel P (fun _ _ _ => True) ρ (noView a) (noView b) := by
  unfold noView
  refine srel_bind (srel_viewAt h) fun ρ1 l1 x y hxy => ?_
  subst hxy
  cases x with
  | none => exact .pure trivial
  | some x => exact .halt _ _
theorem srel_byteOf {a b : Addr} (h : ARel ρ a b) : SemRel P (fun _ (x y : Nat) => x = y) ρ (byteOf a) (byteOf b) := by
  unfold byteOf
  obtain ⟨ab, ao, sa⟩ := a
  obtain ⟨bb, bo, sb⟩ := b
  obtain ⟨h1, h2, h3⟩ := h
  simp only at h1 h2 h3
  subst h2; subst h3
  cases sa with
  | some s => exact .pure rfl
  | none =>
    refine srel_bind srel_program fun ρ1 l1 p q hpq => ?_
    obtain ⟨rfl, rfl⟩ := hpq
    refine srel_bind (R := fun _ _ _ => True) ?_ fun ρ2 l2 _ _ _ => ?_
    · exact srel_noView (a := ⟨ab, ao, none⟩) (b := ⟨bb, ao, none⟩) ⟨l1 _ _ h1, rfl, rfl⟩
    · refine .shape (l2 _ _ (l1 _ _ h1)) (fun s => ?_) fun s => .halt _ _
      cases s with
      | none => exact .halt _ _
      | some s =>
        obtain ⟨e, sz⟩ := s
        simp only [Sem.bind]
        split
        · exact .pure rfl
        · cases byteOfCell q q.depth e (ao % q.cellsOf e) with
          | none => exact .halt _ _
          | some b => exact .pure rfl
theorem srel_addrMod (k : IntKind) (n : Int) {a b : Addr} (h : ARel ρ a b) : SemRel P VRel ρ (Op.addrMod k a n) (Op.addrMod k b n) := by
  unfold Op.addrMod
  refine .shape h.1 (fun s => ?_) fun s => .halt _ _
  cases s with
  | none => exact .halt _ _
  | some s =>
    refine srel_bind (srel_typeInfo _) fun ρ1 l1 i i' hi => ?_
    obtain ⟨rfl, _⟩ := hi
    dsimp only
    split
    · exact .halt _ _
    · refine srel_bind (srel_byteOf (h.mono l1)) fun ρ2 l2 x y hxy => ?_
      subst hxy
      exact .pure (.int _ _)
theorem srel_intDiv (op : BinOp) (k : IntKind) (a b : Int) : SemRel P VRel ρ (Op.intDiv op k a b) (Op.intDiv op k a b) := by
  unfold Op.intDiv
  split
  · exact srel_rpanic (by trivial) (by trivial)
  · cases op <;> first | exact .pure (.int _ _) | exact .halt _ _
theorem srel_unsafeAdd (t : TypeId) {v w x y : Value} (h : VRel ρ v w) (k : VRel ρ x y) : SemRel P (fun ρ v w => VRel ρ v w ∧ ∀ c, v ≠ .tuple c) ρ (Builtin.unsafeAdd_ #[] t #[v, x]) (Builtin.unsafeAdd_ #[] t #[w, y]) := by
  unfold Builtin.unsafeAdd_
  cases h with
  | ptrNil =>
    dsimp only
    refine srel_bind (srel_asInt k) fun ρ1 l1 n n' hn => ?_
    subst hn
    split
    · exact .halt _ _
    · split
      · exact .halt _ _
      · exact .halt _ _
  | ptr h =>
    dsimp only
    refine srel_bind (srel_asInt k) fun ρ1 l1 n n' hn => ?_
    subst hn
    split
    · refine srel_bind (srel_viewAt (h.mono l1)) fun ρ2 l2 a b hab => ?_
      subst hab
      cases a with
      | none => exact .pure ⟨.ptr ((h.mono l1).mono l2), fun c e => by cases e⟩
      | some a => exact .halt _ _
    · split
      · exact .halt _ _
      · refine .shape (h.mono l1).1 (fun s => ?_) fun s => .halt _ _
        cases s with
        | none => exact .halt _ _
        | some s =>
          refine srel_bind srel_program fun ρ2 l2 p q hpq => ?_
          obtain ⟨rfl, rfl⟩ := hpq
          rw [← h.2.1]
          cases hc : cellAtBytes q q.depth s.1 (s.2 / q.cellsOf s.1) _ n with
          | none => exact .halt _ _
          | some off => exact .pure ⟨.ptr ⟨((h.mono l1).mono l2).1, rfl, h.2.2⟩, fun c e => by cases e⟩
  | _ => exact .halt _ _
end
end Go.Proofs.Ytkodpijedinanaa.Sim

namespace Go.Proofs.Ytkodpijedinanaa.Sim
open Go
set_option linter.unusedVariables false
set_option linter.unusedSimpArgs false

section
variable {P : Program} {ρ : Ren}
theorem srel_movedNumber (t : TypeId) (hA : Above P ρ) {v w x y : Value} (h : VRel ρ v w) (k : VRel ρ x y) : SemRel P VRel ρ (movedNumber t v x) (movedNumber t w y) := by
  unfold movedNumber
  refine srel_bindA hA (srel_underlying t) fun ρ1 l1 hA1 a b hab => ?_
  obtain ⟨rfl, _⟩ := hab
  have h1 := h.mono l1
  have k1 := k.mono l1
  have key : ∀ {v w : Value}, VRel ρ1 v w → SemRel P VRel ρ1 (match v with
      | .pointer (some n) => do
        let __discr ← behindNumber n
        match __discr with
        | (a, lost) => do
          let __do_lift ← Builtin.unsafeAdd_ #[] t #[.pointer (some a), x]
          match __do_lift with
          | .pointer (some b) => asNumber b lost
          | v => pure v
      | _ => Builtin.unsafeAdd_ #[] t #[v, x]) (match w with
      | .pointer (some n) => do
        let __discr ← behindNumber n
        match __discr with
        | (a, lost) => do
          let __do_lift ← Builtin.unsafeAdd_ #[] t #[.pointer (some a), y]
          match __do_lift with
          | .pointer (some b) => asNumber b lost
          | v => pure v
      | _ => Builtin.unsafeAdd_ #[] t #[w, y]) := by
    intro v w hvw
    have hu := (srel_unsafeAdd (P := P) t hvw k1).weak (S := VRel) fun _ _ _ _ h => h.1
    cases hvw with
    | junkS a n c => exact .halt _ _
    | junkP a => exact .halt _ _
    | junkF k b => exact .halt _ _
    | junkC k a b => exact .halt _ _
    | junkM m => exact .halt _ _
    | junkH c => exact .halt _ _
    | junkG f a b => exact .halt _ _
    | junkI t v => exact .halt _ _
    | junkT c => exact .halt _ _
    | ptr hp =>
      refine srel_bindA hA1 (srel_behind hA1 hp) fun ρ2 l2 hA2 m m' hm => ?_
      obtain ⟨ma, ml⟩ := m
      obtain ⟨ma', ml'⟩ := m'
      obtain ⟨q1, q2, _⟩ := hm
      simp only at q1 q2
      subst q2
      refine srel_bind (srel_unsafeAdd t (.ptr q1) (k1.mono l2)) fun ρ3 l3 z z' hz => ?_
      obtain ⟨hz, hnt⟩ := hz
      cases hz with
      | junkS a n c => exact absurd rfl (hnt _)
      | junkP a => exact absurd rfl (hnt _)
      | junkF k b => exact absurd rfl (hnt _)
      | junkC k a b => exact absurd rfl (hnt _)
      | junkM m => exact absurd rfl (hnt _)
      | junkH c => exact absurd rfl (hnt _)
      | junkG f a b => exact absurd rfl (hnt _)
      | junkI t v => exact absurd rfl (hnt _)
      | junkT c => exact absurd rfl (hnt _)
      | ptr hz =>
        unfold asNumber
        exact .new (.number _ hz) fun r s _ _ => .pure (.ptr ⟨.inr ⟨rfl, rfl⟩, rfl, rfl⟩)
      | bool b => exact .pure (.bool b)
      | int k n => exact .pure (.int k n)
      | string s => exact .pure (.string s)
      | ptrNil => exact .pure .ptrNil
      | sliceNil n c => exact .pure (.sliceNil n c)
      | sliceE a b => exact .pure (.sliceE a b)
      | slice n c h => exact .pure (.slice n c h)
      | mapNil => exact .pure .mapNil
      | map h => exact .pure (.map h)
      | chanNil => exact .pure .chanNil
      | chan h => exact .pure (.chan h)
      | func fn h0 h1 h2 h3 h4 => exact .pure (.func fn h0 h1 h2 h3 h4)
      | nilFunc => exact .pure .nilFunc
      | iface t h => exact .pure (.iface t h)
      | nilIface => exact .pure .nilIface
      | agg h1 h2 => exact .pure (.agg h1 h2)
      | tuple h1 h2 => exact .pure (.tuple h1 h2)
    | _ => exact hu
  cases a <;> first | exact key h1 | exact .halt _ _
theorem srel_eqIntD (d : Nat) {t : TypeId} {k0 : IntKind} (ht : P.underlying t = some (.int k0)) (hc : ∀ i, P.info? t = some i → ∀ u, i.desc ≠ .named "sync.copyChecker" u) (hA : Above P ρ) {v w x y : Value} (h : VRel ρ v w) (k : VRel ρ x y) :
    SemRel P (fun _ a b => a = b) ρ (Op.equalIn (d + 1) t v x) (Op.equalIn (d + 1) t w y) := by
  unfold Op.equalIn
  refine srel_bindA hA (srel_underlying t) fun ρ1 l1 hA1 a b hab => ?_
  obtain ⟨rfl, hu⟩ := hab
  rw [ht] at hu
  cases hu
  have h1 := h.mono l1
  have k1 := k.mono l1
  cases h1 with
  | ptr h1 =>
    cases k1 with
    | ptr k1 =>
      refine srel_bindA hA1 (srel_behind hA1 h1) fun ρ2 l2 hA2 m m' hm => ?_
      refine srel_bindA hA2 (srel_behind hA2 (k1.mono l2)) fun ρ3 l3 hA3 q q' hq => ?_
      refine srel_bind srel_program fun ρ4 l4 p p' hpq => ?_
      obtain ⟨rfl, rfl⟩ := hpq
      have e1 : (m.1.block == q.1.block && decide (m.1.block < p'.globals.size)) = false := by
        have := hm.2.2
        simp; omega
      have hdead : Dead p' (do
          let .named "sync.copyChecker" _ := (← typeInfo t).desc | unsupported .addressObserved
          if m.1 == q.1 then (pure true : Sem Bool) else unsupported .addressObserved) := by
        refine .program ?_
        show Dead p' (Sem.bind (match p'.info? t with
          | some i => Sem.pure i
          | none => stuck "no such type") fun i => match i.desc with
            | .named "sync.copyChecker" _ => if m.1 == q.1 then (pure true : Sem Bool) else unsupported .addressObserved
            | _ => unsupported .addressObserved)
        cases hi : p'.info? t with
        | none => exact .halt (.stuck "no such type")
        | some i =>
          have hci := hc i hi
          show Dead p' (match i.desc with
            | .named "sync.copyChecker" _ => if m.1 == q.1 then (pure true : Sem Bool) else unsupported .addressObserved
            | _ => unsupported .addressObserved)
          split
          · rename_i u hd
            exact absurd hd (hci u)
          · exact .halt _
      rw [e1]
      exact .dead hdead _
    | int k n =>
      cases n with
      | ofNat n => cases n <;> first | exact .pure rfl | exact .halt _ _
      | negSucc n => exact .halt _ _
    | _ => exact .halt _ _
  | int k n =>
    cases k1 with
    | ptr k1 =>
      cases n with
      | ofNat n => cases n <;> first | exact .pure rfl | exact .halt _ _
      | negSucc n => exact .halt _ _
    | int k' n' =>
      dsimp only
      split
      · exact .pure rfl
      · exact .halt _ _
    | _ => exact .halt _ _
  | _ => cases k1 <;> exact .halt _ _
theorem srel_eqInt {t : TypeId} {k0 : IntKind} (ht : P.underlying t = some (.int k0)) (hc : ∀ i, P.info? t = some i → ∀ u, i.desc ≠ .named "sync.copyChecker" u) (hA : Above P ρ) {v w x y : Value} (h : VRel ρ v w) (k : VRel ρ x y) :
    SemRel P (fun _ a b => a = b) ρ (Op.equal t v x) (Op.equal t w y) := by
  unfold Op.equal Op.maxDepth
  exact srel_eqIntD 9999 ht hc hA h k
/-- Which operations on integers are borne. -/
def okBin : BinOp → Bool
  | .add | .sub | .mul | .rem | .lss | .leq | .gtr | .geq | .eql | .neq | .shr => true
  | _ => false
theorem dead_equal {t : TypeId} {k0 : IntKind} (ht : P.underlying t = some (.int k0)) (c : Array Value) (x : Value) : Dead P (Op.equal t (.tuple c) x) ∧ Dead P (Op.equal t x (.tuple c)) := by
  have key : ∀ a b : Value, (∀ d : TypeDesc, d = .int k0 → Dead P (Op.equalIn Op.maxDepth t a b) → True) := fun _ _ _ _ _ => trivial
  constructor <;> (
    unfold Op.equal Op.maxDepth Op.equalIn
    refine .program ?_
    show Dead P (Sem.bind (match P.underlying t with
      | some d => pure d
      | none => _) _)
    rw [ht]
    cases x <;> first
      | exact .halt _
      | (rename_i a; cases a <;> exact .halt _)
      | (rename_i k n; cases n with
         | ofNat n => cases n <;> exact .halt _
         | negSucc n => exact .halt _))
theorem dead_binOp {op : BinOp} (hop : okBin op = true) {t : TypeId} {k0 : IntKind} (ht : P.underlying t = some (.int k0)) (c : Array Value) (x : Value) : Dead P (binOp op t (.tuple c) x) ∧ Dead P (binOp op t x (.tuple c)) := by
  obtain ⟨h1, h2⟩ := dead_equal ht c x
  have e1 := h1.bind fun b => pure (Value.bool b)
  have e2 := h2.bind fun b => pure (Value.bool b)
  have n1 := h1.bind fun b => pure (Value.bool !b)
  have n2 := h2.bind fun b => pure (Value.bool !b)
  cases op <;> first
    | (cases hop; done)
    | (constructor <;> cases x <;> first
        | exact .halt _
        | exact e1
        | exact e2
        | exact n1
        | exact n2
        | (rename_i a; cases a <;> exact .halt _))
set_option maxHeartbeats 1000000 in
theorem srel_binOp {op : BinOp} (hop : okBin op = true) {t : TypeId} {k0 : IntKind} (ht : P.underlying t = some (.int k0)) (hc : ∀ i, P.info? t = some i → ∀ u, i.desc ≠ .named "sync.copyChecker" u) (hA : Above P ρ) {v w x y : Value} (h : VRel ρ v w) (k : VRel ρ x y) :
    SemRel P VRel ρ (binOp op t v x) (binOp op t w y) := by
  have he := srel_map (srel_eqInt ht hc hA h k) (S := VRel) (f := fun b => Value.bool b) (f' := fun b => Value.bool b) fun ρ' l a b hab => by rw [hab]; exact .bool b
  have hn := srel_map (srel_eqInt ht hc hA h k) (S := VRel) (f := fun b => Value.bool !b) (f' := fun b => Value.bool !b) fun ρ' l a b hab => by rw [hab]; exact .bool _
  have hm1 := srel_movedNumber t hA h k
  have hm2 := srel_movedNumber t hA k h
  have hmp : P.underlying t ≠ some .unsafePointer := by rw [ht]; simp
  have hi : ∀ (op : BinOp) (k1 k2 : IntKind) (a b : Int), SemRel P VRel ρ (if k1 ≠ k2 then stuck "BinOp: operands of different kinds" else Op.intArith op k1 a b) (if k1 ≠ k2 then stuck "BinOp: operands of different kinds" else Op.intArith op k1 a b) := fun op k1 k2 a b => by
    split
    · exact .halt _ _
    · exact srel_intArith op k1 a b
  have hj : ∀ (op : BinOp) (k1 k2 : IntKind) (a b : Int), SemRel P VRel ρ (if k1 ≠ k2 then stuck "BinOp: operands of different kinds" else Op.intCmp op a b) (if k1 ≠ k2 then stuck "BinOp: operands of different kinds" else Op.intCmp op a b) := fun op k1 k2 a b => by
    split
    · exact .halt _ _
    · exact srel_intCmp op a b
  have hd : ∀ (op : BinOp) (k1 k2 : IntKind) (a b : Int), SemRel P VRel ρ (if k1 ≠ k2 then stuck "BinOp: operands of different kinds" else Op.intDiv op k1 a b) (if k1 ≠ k2 then stuck "BinOp: operands of different kinds" else Op.intDiv op k1 a b) := fun op k1 k2 a b => by
    split
    · exact .halt _ _
    · exact srel_intDiv op k1 a b
  by_cases hv : ∃ c, v = .tuple c
  · obtain ⟨c, rfl⟩ := hv
    exact .dead (dead_binOp hop ht c x).1 _
  by_cases hv' : ∃ c, x = .tuple c
  · obtain ⟨c, rfl⟩ := hv'
    exact .dead (dead_binOp hop ht c v).2 _
  cases op <;> first
    | (cases hop; done)
    | skip
  all_goals (cases h <;> first
    | (exact absurd ⟨_, rfl⟩ hv)
    | skip)
  all_goals (cases k <;> first
    | (exact absurd ⟨_, rfl⟩ hv')
    | exact .halt _ _
    | exact he
    | exact hn
    | exact hi _ _ _ _ _
    | exact hj _ _ _ _ _
    | exact hd _ _ _ _ _
    | exact srel_shift _ _ _ _ _
    | exact srel_stringOp _ _ _
    | exact hm2
    | (rename_i q _; exact srel_movedNumber t hA (.ptr q) (.int _ _))
    | (rename_i q1 q2; exact srel_addrCmp _ hA q1 q2)
    | (rename_i q1 q2; exact srel_addrSub _ hA q1 q2)
    | skip)
  case add.string.string => exact srel_stringOp .add _ _
  case add.ptrNil.int =>
    refine srel_bindA hA (srel_underlying t) fun ρ' l hA' a b hab => ?_
    obtain ⟨rfl, hu⟩ := hab
    rw [ht] at hu
    cases hu
    exact srel_movedNumber t hA' .ptrNil (.int _ _)
  case add.ptr.int q _ _ =>
    refine srel_bindA hA (srel_underlying t) fun ρ' l hA' a b hab => ?_
    obtain ⟨rfl, hu⟩ := hab
    rw [ht] at hu
    cases hu
    exact srel_movedNumber t hA' (.ptr (ARel.mono q l)) (.int _ _)
  case sub.ptrNil.int => exact srel_movedNumber t hA .ptrNil (.int _ _)
  case sub.ptr.int q _ _ => exact srel_movedNumber t hA (.ptr q) (.int _ _)
  case rem.ptr.int q _ _ => exact srel_bindA hA (srel_behind hA q) fun ρ' l hA' m m' hm => srel_addrMod _ _ hm.1
  case sub.ptr.ptr q1 _ _ q2 => exact srel_addrSub _ hA q1 q2
  all_goals first
    | exact srel_stringOp .lss _ _
    | exact srel_stringOp .leq _ _
    | exact srel_stringOp .gtr _ _
    | exact srel_stringOp .geq _ _
    | exact srel_stringOp .eql _ _
    | exact srel_stringOp .neq _ _
    | exact srel_stringOp .sub _ _
    | exact srel_stringOp .mul _ _
    | exact srel_shift .shr _ _ _ _
    | exact srel_addrCmp .lss hA (by assumption) (by assumption)
    | exact srel_addrCmp .leq hA (by assumption) (by assumption)
    | exact srel_addrCmp .gtr hA (by assumption) (by assumption)
    | exact srel_addrCmp .geq hA (by assumption) (by assumption)
    | (simp only [binOp]; exact srel_shift _ _ _ _ _)
    | (unfold binOp; exact srel_shift _ _ _ _ _)
    | skip
  done
end
end Go.Proofs.Ytkodpijedinanaa.Sim

namespace Go.Proofs.Ytkodpijedinanaa.Sim
open Go
set_option linter.unusedVariables false
set_option linter.unusedSimpArgs false

section
variable {P : Program} {ρ : Ren}
theorem fill_rel (place : Nat → Option (Nat × Nat)) : ∀ (l m : List (Nat × Value)) (c d : Array Value), RowRel ρ c d → l.length = m.length → (∀ (i : Nat) (x y : Nat × Value), l[i]? = some x → m[i]? = some y → x.1 = y.1 ∧ VRel ρ x.2 y.2) →
    ∀ e, Instr.fill place c l = some e → ∃ f, Instr.fill place d m = some f ∧ RowRel ρ e f
  | [], [], c, d, h, _, _, e, he => by simp only [Instr.fill, Option.some.injEq] at he; subst he; exact ⟨d, rfl, h⟩
  | x :: l, y :: m, c, d, h, hl, hr, e, he => by
    obtain ⟨h1, h2⟩ := hr 0 x y rfl rfl
    have hc := h2.cells
    obtain ⟨xi, xv⟩ := x
    obtain ⟨yi, yv⟩ := y
    simp only at h1 h2 hc
    subst h1
    unfold Instr.fill at he ⊢
    cases hp : place xi with
    | none => rw [hp] at he; cases he
    | some q =>
      obtain ⟨off, size⟩ := q
      simp only [hp] at he ⊢
      rw [← hc.1, ← h.1]
      split at he
      · cases he
      · rename_i hn
        rw [if_neg hn]
        refine fill_rel place l m _ _ ?_ (by simpa using hl) (fun i x y a b => hr (i + 1) x y (by simpa using a) (by simpa using b)) e he
        have key : ∀ (n : Nat) (zs us : List Value) (c d : Array Value), RowRel ρ c d → zs.length = us.length → (∀ (i : Nat) v w, zs[i]? = some v → us[i]? = some w → VRel ρ v w) →
            RowRel ρ ((zs.zipIdx n).foldl (fun cs x => cs.setIfInBounds (off + x.2) x.1) c) ((us.zipIdx n).foldl (fun cs x => cs.setIfInBounds (off + x.2) x.1) d) := by
          intro n zs
          induction zs generalizing n with
          | nil => intro us c d h hl _; cases us with
            | nil => exact h
            | cons => simp at hl
          | cons z zs ih =>
            intro us c d h hl hr
            cases us with
            | nil => simp at hl
            | cons u us =>
              simp only [List.zipIdx_cons, List.foldl_cons]
              exact ih (n + 1) us _ _ (h.set _ (hr 0 z u rfl rfl)) (by simpa using hl) fun i v w a b => hr (i + 1) v w (by simpa using a) (by simpa using b)
        have := key 0 xv.cells.toList yv.cells.toList c d h hc.toList.1 hc.toList.2
        rw [← Array.foldl_toList, ← Array.foldl_toList, Array.toList_zipIdx, Array.toList_zipIdx]
        exact this
  | [], y :: m, c, d, h, hl, _, e, he => by simp at hl
  | x :: l, [], c, d, h, hl, _, e, he => by simp at hl
theorem RowRel.bang {c d : Array Value} (h : RowRel ρ c d) (k : Nat) : VRel ρ c[k]! d[k]! := by
  by_cases hk : k < c.size
  · rw [getElem!_pos c k hk, getElem!_pos d k (by rw [← h.1]; exact hk)]
    exact h.2 k _ _ (Array.getElem?_eq_getElem hk) (Array.getElem?_eq_getElem _)
  · rw [getElem!_neg c k hk, getElem!_neg d k (by rw [← h.1]; exact hk)]
    exact .bool _
theorem RowRel.repeated {c d : Array Value} (h : RowRel ρ c d) (n : Nat) (f : Nat → Nat) : RowRel ρ ((Array.range n).map fun x => c[f x]!) ((Array.range n).map fun x => d[f x]!) :=
  ⟨by simp, fun i v w hv hw => by
    simp only [Array.getElem?_map, Option.map_eq_some_iff] at hv hw
    obtain ⟨x, hx, rfl⟩ := hv
    obtain ⟨y, hy, rfl⟩ := hw
    rw [hx] at hy
    cases hy
    exact h.bang _⟩
/-- Parts of a literal. -/
def PartsRel (ρ : Ren) (c d : Array (Nat × Value)) : Prop := c.size = d.size ∧ ∀ (i : Nat) x y, c[i]? = some x → d[i]? = some y → x.1 = y.1 ∧ VRel ρ x.2 y.2
theorem PartsRel.mono {ρ ρ' : Ren} (hle : Ren.le ρ ρ') {c d : Array (Nat × Value)} (h : PartsRel ρ c d) : PartsRel ρ' c d := ⟨h.1, fun i x y a b => ⟨(h.2 i x y a b).1, (h.2 i x y a b).2.mono hle⟩⟩
theorem srel_buildSlice (t : TypeId) (len : Nat) {c d : Array (Nat × Value)} (h : PartsRel ρ c d) (hz : ∀ e, P.underlying t = some (.slice e) → ZeroOk P e) : SemRel P VRel ρ (Instr.buildSlice t len c) (Instr.buildSlice t len d) := by
  unfold Instr.buildSlice
  refine srel_bind (srel_underlying t) fun ρ1 l1 a b hab => ?_
  obtain ⟨rfl, hu⟩ := hab
  cases a with
  | slice elem =>
    have hz := hz elem hu
    refine srel_bind (srel_sizeOf elem) fun ρ2 l2 n n' hn => ?_
    obtain ⟨rfl, _⟩ := hn
    have JP : ∀ ρ3, Ren.le ρ2 ρ3 → ∀ zero zero' : Array Value, RowRel ρ3 zero zero' → SemRel P VRel ρ3 (match
          Instr.fill (fun i => some (i * n, n)) (Array.map (fun x => zero[x % zero.size]!) (Array.range (len * n)))
            c.toList with
        | some cells => do
          let __do_lift ← newRow elem cells
          pure (Value.slice (some __do_lift) len len)
        | x => stuck "buildSlice: a part of the wrong size") (match
          Instr.fill (fun i => some (i * n, n)) (Array.map (fun x => zero'[x % zero'.size]!) (Array.range (len * n)))
            d.toList with
        | some cells => do
          let __do_lift ← newRow elem cells
          pure (Value.slice (some __do_lift) len len)
        | x => stuck "buildSlice: a part of the wrong size") := fun ρ3 l3 zero zero' hzz => by
      have hp := h.mono (l1.trans (l2.trans l3))
      cases hf : Instr.fill (fun i => some (i * n, n)) (Array.map (fun x => zero[x % zero.size]!) (Array.range (len * n))) c.toList with
      | none => exact .halt _ _
      | some e =>
        have hr := hzz.repeated (len * n) fun x => x % zero.size
        rw [show (Array.map (fun x => zero'[x % zero.size]!) (Array.range (len * n))) = Array.map (fun x => zero'[x % zero'.size]!) (Array.range (len * n)) by rw [hzz.1]] at hr
        obtain ⟨f, hf', hef⟩ := fill_rel (fun i => some (i * n, n)) c.toList d.toList _ _ hr (by simpa using hp.1) (fun i x y a b => hp.2 i x y (by simpa using a) (by simpa using b)) e hf
        rw [hf']
        exact srel_map (srel_newRow elem hef) fun ρ4 l4 a b hab => .slice len len hab
    dsimp only
    split
    · exact .halt _ _
    · split
      · exact JP ρ2 (Ren.le.refl _) _ _ (RowRel.nil _)
      · refine srel_bind (srel_zeroValue hz) fun ρ3 l3 a b hab => ?_
        exact JP ρ3 l3 _ _ hab.1.cells
  | _ => exact .halt _ _
theorem srel_len (ats : Array TypeId) (ty : TypeId) {c d : Array Value} (h : RowRel ρ c d) (hch : ∀ t, ats[0]? = some t → ∀ x e, P.underlying t ≠ some (.chan x e)) : SemRel P VRel ρ (Builtin.len_ ats ty c) (Builtin.len_ ats ty d) := by
  unfold Builtin.len_
  have h0 : ∀ v, c[0]? = some v → ∃ w, d[0]? = some w ∧ VRel ρ v w := fun v hv => h.at hv
  cases hc : c[0]? with
  | none =>
    rw [h.none hc]
    cases ats[0]? <;> exact .halt _ _
  | some v =>
    obtain ⟨w, hw, hvw⟩ := h0 v hc
    rw [hw]
    cases ht : ats[0]? with
    | none => exact .halt _ _
    | some t =>
      have hch := hch t ht
      refine srel_bind (srel_underlying t) fun ρ1 l1 a b hab => ?_
      obtain ⟨rfl, hu⟩ := hab
      have h1 := hvw.mono l1
      cases a with
      | chan x e => exact absurd hu (hch x e)
      | string => cases h1 <;> first | exact .pure (.int _ _) | exact .halt _ _
      | array n e => cases h1 <;> exact .pure (.int _ _)
      | slice e => cases h1 <;> first | exact .pure (.int _ _) | exact .halt _ _
      | pointer e =>
        have hp : SemRel P VRel ρ1 (do
            let .array n _ ← underlying e | stuck "len: pointer to array expected"
            pure (goInt n)) (do
            let .array n _ ← underlying e | stuck "len: pointer to array expected"
            pure (goInt n)) := by
          refine srel_bind (srel_underlying e) fun ρ2 l2 a b hab => ?_
          obtain ⟨rfl, _⟩ := hab
          cases a <;> first | exact .pure (.int _ _) | exact .halt _ _
        cases h1 <;> exact hp
      | map k e =>
        cases h1 <;> first
          | exact .pure (.int _ _)
          | exact .halt _ _
          | (refine .getObj (by assumption) (fun o o' ho => ?_) (.halt _)
             cases ho <;> exact .halt _ _)
      | _ => cases h1 <;> exact .halt _ _
theorem srel_min2 {v w x y : Value} (h : VRel ρ v w) (k : VRel ρ x y) : SemRel P VRel ρ (Builtin.min2 v x) (Builtin.min2 w y) := by
  cases h <;> cases k <;> first
    | exact .halt _ _
    | exact .pure (.int _ _)
    | skip
  refine srel_bind (srel_stringOp .leq _ _) fun ρ1 l1 a b hab => ?_
  refine srel_map (srel_asBool hab) fun ρ2 l2 x y hxy => ?_
  subst hxy
  split <;> exact .string _
theorem srel_min (ats : Array TypeId) (ty : TypeId) {c d : Array Value} (h : RowRel ρ c d) : SemRel P VRel ρ (Builtin.min_ ats ty c) (Builtin.min_ ats ty d) := by
  unfold Builtin.min_
  obtain ⟨hl, hr⟩ := h.toList
  have key : ∀ (l m : List Value) (ρ : Ren) (v w : Value), VRel ρ v w → l.length = m.length → (∀ (j : Nat) v w, l[j]? = some v → m[j]? = some w → VRel ρ v w) → SemRel P VRel ρ (l.foldlM Builtin.min2 v) (m.foldlM Builtin.min2 w) := by
    intro l
    induction l with
    | nil => intro m ρ v w hv hl _; cases m with
      | nil => exact .pure hv
      | cons => simp at hl
    | cons a l ih =>
      intro m ρ v w hv hl hr
      cases m with
      | nil => simp at hl
      | cons b m =>
        rw [List.foldlM_cons, List.foldlM_cons]
        refine srel_bind (srel_min2 hv (hr 0 a b rfl rfl)) fun ρ' l' x y hxy => ?_
        exact ih m ρ' x y hxy (by simpa using hl) fun j v w p q => (hr (j + 1) v w (by simpa using p) (by simpa using q)).mono l'
  revert hl hr
  generalize c.toList = l
  generalize d.toList = m
  intro hl hr
  cases l with
  | nil => exact .halt _ _
  | cons a l =>
    cases m with
    | nil => simp at hl
    | cons b m => exact key l m ρ a b (hr 0 a b rfl rfl) (by simpa using hl) fun j v w p q => hr (j + 1) v w (by simpa using p) (by simpa using q)
theorem srel_indexAt (t : TypeId) {v w x y : Value} (h : VRel ρ v w) (k : VRel ρ x y) : SemRel P VRel ρ (Instr.indexAt t v x) (Instr.indexAt t w y) := by
  unfold Instr.indexAt
  refine srel_bind (srel_asIntOf k) fun ρ1 l1 n n' hn => ?_
  subst hn
  obtain ⟨nk, ni⟩ := n
  refine srel_bind (srel_underlying t) fun ρ2 l2 a b hab => ?_
  obtain ⟨rfl, hu⟩ := hab
  have h1 := (h.mono l1).mono l2
  have JP : ∀ ρ3, Ren.le ρ2 ρ3 → ∀ (base base' : Option Addr) (len : Nat) (elem : TypeId), ((base = none ∧ base' = none) ∨ ∃ a b, base = some a ∧ base' = some b ∧ ARel ρ3 a b) → SemRel P VRel ρ3 (do
          let __do_lift ← underlying t
          have tiny : Bool := decide (len ≤ 1) && match __do_lift with
              | TypeDesc.array len elem => true
              | x => false
          match base with
            | some a =>
              if 0 ≤ ni ∧ ni < ↑len then do
                let __do_lift ← sizeOf elem
                pure (Value.pointer (some (a.add (ni.toNat * __do_lift))))
              else
                if tiny = true then
                  unsupported (Unsupported.noEntry "op/indexAddr.an index out of range at an array of length 0 or 1 (ledger 616)")
                else boundsPanic nk ni (↑len) BoundsCode.index
            | none => boundsPanic nk ni 0 BoundsCode.index) (do
          let __do_lift ← underlying t
          have tiny : Bool := decide (len ≤ 1) && match __do_lift with
              | TypeDesc.array len elem => true
              | x => false
          match base' with
            | some a =>
              if 0 ≤ ni ∧ ni < ↑len then do
                let __do_lift ← sizeOf elem
                pure (Value.pointer (some (a.add (ni.toNat * __do_lift))))
              else
                if tiny = true then
                  unsupported (Unsupported.noEntry "op/indexAddr.an index out of range at an array of length 0 or 1 (ledger 616)")
                else boundsPanic nk ni (↑len) BoundsCode.index
            | none => boundsPanic nk ni 0 BoundsCode.index) := fun ρ3 l3 base base' len elem hb => by
    refine srel_bind (srel_underlying t) fun ρ4 l4 a b hab => ?_
    obtain ⟨rfl, _⟩ := hab
    rcases hb with ⟨rfl, rfl⟩ | ⟨p, q, rfl, rfl, hpq⟩
    · exact srel_bpanic _ _ _ _
    · dsimp only
      split
      · refine srel_map (srel_sizeOf elem) fun ρ5 l5 m m' hm => ?_
        obtain ⟨rfl, _⟩ := hm
        exact .ptr ((hpq.mono (l4.trans l5)).add _)
      · split <;> (split <;> first | exact .halt _ _ | exact srel_bpanic _ _ _ _)
  cases a with
  | array n e =>
    have h2 := srel_sureAddr (P := P) h1
    have := srel_bind h2 (S := VRel) (f := fun a => _) (f' := fun a => _) fun ρ3 l3 a b hab => JP ρ3 l3 (some a) (some b) n e (.inr ⟨a, b, rfl, rfl, hab⟩)
    cases h1 <;> exact this
  | slice e =>
    cases h1 with
    | sliceNil n c => exact JP ρ2 (Ren.le.refl _) none none n e (.inl ⟨rfl, rfl⟩)
    | slice n c q => exact JP ρ2 (Ren.le.refl _) _ _ n e (.inr ⟨_, _, rfl, rfl, q⟩)
    | sliceE p q =>
      refine srel_bind (srel_underlying t) fun ρ4 l4 a b hab => ?_
      obtain ⟨rfl, _⟩ := hab
      have h0 : ¬ (0 ≤ ni ∧ ni < ((0 : Nat) : Int)) := by omega
      simp only [if_neg h0]
      split <;> (split <;> first | exact .halt _ _ | exact srel_bpanic _ _ _ _)
    | _ => exact .halt _ _
  | _ => cases h1 <;> exact .halt _ _
theorem srel_extract (i : Nat) {v w : Value} (h : VRel ρ v w) : SemRel P VRel ρ (Instr.extract v i) (Instr.extract w i) := by
  cases h with
  | @tuple c d h1 h2 =>
    unfold Instr.extract
    dsimp only
    cases hc : c[i]? with
    | none => exact .halt _ _
    | some x =>
      obtain ⟨y, hy, hxy⟩ := RowRel.at (ρ := ρ) (c := c) (d := d) ⟨h1, h2⟩ hc
      rw [hy]
      exact .pure hxy
  | _ => exact .halt _ _
theorem srel_alloc (t : TypeId) (hz : ZeroOk P t) : SemRel P VRel ρ (Instr.alloc t true (.tuple #[])) (Instr.alloc t true (.tuple #[])) := by
  unfold Instr.alloc
  refine srel_bind (srel_zeroValue hz) fun ρ1 l1 a b hab => ?_
  exact srel_map (srel_newVar t hab.1) fun ρ2 l2 x y hxy => .ptr hxy
theorem srel_box (t : TypeId) {v w : Value} (h : VRel ρ v w) : SemRel P VRel ρ (Instr.box t v) (Instr.box t w) := by
  unfold Instr.box
  exact srel_map (srel_newVar t h) fun ρ2 l2 x y hxy => .ptr hxy
theorem srel_loadAt (t : TypeId) {v w : Value} (h : VRel ρ v w) : SemRel P VRel ρ (Instr.loadAt t v) (Instr.loadAt t w) := by
  unfold Instr.loadAt
  exact srel_bind (srel_sureAddr h) fun ρ1 l1 a b hab => srel_loadVar t hab
theorem srel_storeAt (t : TypeId) {v w x y : Value} (h : VRel ρ v w) (k : VRel ρ x y) : SemRel P (fun _ _ _ => True) ρ (Instr.storeAt t v x) (Instr.storeAt t w y) := by
  unfold Instr.storeAt
  exact srel_bind (srel_sureAddr h) fun ρ1 l1 a b hab => srel_storeVar t hab (k.mono l1)
theorem srel_not {v w : Value} (h : VRel ρ v w) : SemRel P VRel ρ (Op.unary .not v) (Op.unary .not w) := by
  unfold Op.unary
  cases h <;> first
    | exact .halt _ _
    | exact .pure (.bool _)
end
end Go.Proofs.Ytkodpijedinanaa.Sim

namespace Go.Proofs.Ytkodpijedinanaa.Sim
open Go
set_option linter.unusedVariables false
set_option linter.unusedSimpArgs false

section
variable {P : Program} {ρ : Ren}
theorem srel_lenOf {v w : Value} (h : VRel ρ v w) : SemRel P (fun _ a b => a = b ∧ ((∃ x, v = .slice (some x) 0 0) → a = 0)) ρ (Builtin.lenOf v) (Builtin.lenOf w) := by
  cases h <;> first
    | exact .pure ⟨rfl, fun e => by obtain ⟨x, e⟩ := e; cases e; rfl⟩
    | exact .pure ⟨rfl, fun e => by obtain ⟨x, e⟩ := e; cases e⟩
    | exact .halt _ _
theorem firstCells_none (size : Nat) {v w : Value} (h : VRel ρ v w) : SemRel P (fun _ a b => a = #[] ∧ b = #[]) ρ (Builtin.firstCells size 0 v) (Builtin.firstCells size 0 w) := by
  have e : ∀ a : Addr, loadCells a (0 * size) = .pure #[] := fun a => by rw [Nat.zero_mul]; rfl
  cases h <;> first
    | exact .halt _ _
    | (simp only [Builtin.firstCells, e]; exact .pure ⟨rfl, rfl⟩)
    | (simp only [Builtin.firstCells]; exact .pure ⟨by simp, by simp⟩)
theorem srel_firstCells (size n : Nat) {v w : Value} (h : VRel ρ v w) (hn : (∃ x, v = .slice (some x) 0 0) → n = 0) : SemRel P RowRel ρ (Builtin.firstCells size n v) (Builtin.firstCells size n w) := by
  cases h with
  | sliceE a b =>
    rw [hn ⟨a, rfl⟩]
    exact (firstCells_none size (.sliceE a b)).weak fun _ _ a b h => by rw [h.1, h.2]; exact RowRel.nil _
  | slice n c q => exact srel_loadCells q _
  | sliceNil n c => exact .pure (RowRel.nil _)
  | string s => exact .pure ⟨rfl, fun i v w a b => by
      rw [a] at b
      cases b
      simp only [Array.getElem?_map, Option.map_eq_some_iff] at a
      obtain ⟨x, _, rfl⟩ := a
      exact .int _ _⟩
  | _ => exact .halt _ _
theorem srel_askRoom (n : Nat) : SemRel P (fun _ _ _ => True) ρ (askRoom n) (askRoom n) := by
  unfold askRoom
  split
  · exact .noRoom (.pure trivial)
  · exact .pure trivial
/-- What follows decides whether it ends in a halt. -/
structure Passes {α : Type} (s : Sem α) : Prop where
  out : ∀ {β : Type} {P : Program} (f : α → Sem β), (∀ b, Dead P (f b)) → Dead P (s.bind f)
theorem passes_pure {α : Type} (a : α) : Passes (pure a : Sem α) := ⟨fun f h => h a⟩
theorem passes_bind {α β : Type} {s : Sem α} {g : α → Sem β} (h : Passes s) (k : ∀ a, Passes (g a)) : Passes (s >>= g) := ⟨fun {_} {P} f hf => by
  show Dead P ((s.bind g).bind f)
  rw [sem_assoc]
  exact h.out _ fun a => (k a).out f hf⟩
theorem passes_shape (r : Nat) : Passes (shape r) := ⟨fun f h => .shape r fun s => h s⟩
theorem passes_frozen (a : Addr) : Passes (frozen a) := ⟨fun f h => .frozen a fun s => h s⟩
theorem passes_holds (a : Addr) (n : Nat) : Passes (Builtin.holdsCells a n) := by
  unfold Builtin.holdsCells
  refine passes_bind (passes_shape _) fun s => ?_
  cases s <;> exact passes_pure _
theorem passes_mayShare (size sLen n : Nat) (base : Option Addr) (x : Value) : Passes (Builtin.mayShare size sLen n base x) := by
  unfold Builtin.mayShare
  have JP : ∀ there : Bool, Passes (if (!there) = true then (pure true : Sem Bool) else match x with
      | .slice (some b) _ _ => do pure (!(← Builtin.holdsCells b (n * size)) || base.any (·.block == b.block))
      | _ => pure false) := fun there => by
    split
    · exact passes_pure _
    · split
      · exact passes_bind (passes_holds _ _) fun b => passes_pure _
      · exact passes_pure _
  cases base with
  | none => exact JP true
  | some a => exact passes_bind (passes_holds _ _) fun b => passes_bind (passes_frozen _) fun c => JP _
theorem srel_append (ats : Array TypeId) (ty : TypeId) {c d : Array Value} (h : RowRel ρ c d) (hni : ∀ t, ats[1]? = some t → ∀ k, P.underlying t ≠ some (.int k)) (hz : ∀ t e, ats[0]? = some t → P.underlying t = some (.slice e) → ZeroOk P e) :
    SemRel P VRel ρ (Builtin.append_ ats ty c) (Builtin.append_ ats ty d) := by
  unfold Builtin.append_
  cases ht : ats[0]? with
  | none => exact .halt _ _
  | some sT =>
    cases hc0 : c[0]? with
    | none => exact .halt _ _
    | some v =>
      obtain ⟨w, hw, hvw⟩ := h.at hc0
      cases hc1 : c[1]? with
      | none => exact .halt _ _
      | some x =>
        obtain ⟨y, hy, hxy⟩ := h.at hc1
        rw [hw, hy]
        dsimp only
        refine srel_bind (srel_underlying sT) fun ρ1 l1 a b hab => ?_
        obtain ⟨rfl, hu⟩ := hab
        cases a with
        | slice elem =>
          have hz := hz sT elem ht hu
          have hv1 := hvw.mono l1
          have hx1 := hxy.mono l1
          clear hvw hxy h
          have both : ∀ (S S' : Bool → Sem Value) ρ2, Ren.le ρ1 ρ2 → (∀ ρ3, Ren.le ρ2 ρ3 → SemRel P VRel ρ3 (S false) (S' false)) → SemRel P VRel ρ2 (match ats[1]? with
              | some xType => do
                let __do_lift ← underlying xType
                let zeros ← pure (match __do_lift with
                  | TypeDesc.int k => true
                  | x => false)
                S zeros
              | none => do
                let zeros ← pure false
                S zeros) (match ats[1]? with
              | some xType => do
                let __do_lift ← underlying xType
                let zeros ← pure (match __do_lift with
                  | TypeDesc.int k => true
                  | x => false)
                S' zeros
              | none => do
                let zeros ← pure false
                S' zeros) := fun S S' ρ2 l2 hS => by
            cases h1 : ats[1]? with
            | none => exact hS ρ2 (Ren.le.refl _)
            | some t1 =>
              refine srel_bind (srel_underlying t1) fun ρ3 l3 a b hab => ?_
              obtain ⟨rfl, hu1⟩ := hab
              cases a with
              | int k => exact absurd hu1 (hni t1 h1 k)
              | _ => exact hS ρ3 l3
          cases hv1 with
          | slice sl sc q =>
            refine srel_bind (srel_sizeOf elem) fun ρ2 l2 m m' hm => ?_
            obtain ⟨rfl, _⟩ := hm
            refine both _ _ ρ2 l2 fun ρ2' l2' => ?_
            have hxx := (hx1.mono l2).mono l2'
            have qqq := (q.mono l2).mono l2'
            have hbb : VRel ρ2' (.slice (some _) sl sc) (.slice (some _) sl sc) := .slice sl sc qqq
            simp only [Bool.false_eq_true, if_false, Bool.not_false, if_true, false_or]
            refine srel_bind (srel_lenOf hxx) fun ρ3 l3 n n' hn => ?_
            obtain ⟨rfl, hn⟩ := hn
            have hx3 := hxx.mono l3
            have hb3 := hbb.mono l3
            have qq := qqq.mono l3
            split
            · refine srel_bind (srel_firstCells m n hx3 hn) fun ρ4 l4 new new' hnew => ?_
              refine srel_bind (srel_storeCells (((qq.mono l4)).add _) _ _ 0 hnew.toList.1 hnew.toList.2) fun ρ5 l5 _ _ _ => ?_
              exact .pure (.slice _ _ ((qq.mono l4).mono l5))
            · refine srel_bind (srel_typeInfo elem) fun ρ4 l4 i i' hi => ?_
              obtain ⟨rfl, _⟩ := hi
              split
              · exact srel_bind (R := fun _ _ _ => False) (srel_rpanic (by trivial) (by trivial)) fun _ _ _ _ h => h.elim
              · refine srel_bind (srel_typeInfo elem) fun ρ5 l5 i i' hi => ?_
                obtain ⟨rfl, _⟩ := hi
                split
                · refine .dead ?_ _
                  refine Dead.bind ((passes_mayShare _ _ _ _ _).out _ fun b => ?_) _
                  cases b
                  · exact .mark _ (.halt _)
                  · exact .halt _
                · refine srel_bind (R := fun _ a b => a = b) (.choose _ fun z => .pure rfl) fun ρ6 l6 nc nc' hnc => ?_
                  subst hnc
                  refine srel_bind (srel_typeInfo elem) fun ρ7 l7 i i' hi => ?_
                  obtain ⟨rfl, _⟩ := hi
                  refine srel_bind (srel_askRoom _) fun ρ8 l8 _ _ _ => ?_
                  have hle := l4.trans (l5.trans (l6.trans (l7.trans l8)))
                  refine srel_bind (srel_firstCells m sl (hb3.mono hle) fun e => by obtain ⟨x, e⟩ := e; cases e; rfl) fun ρ9 l9 old old' hold => ?_
                  refine srel_bind (srel_firstCells m n ((hx3.mono hle).mono l9) hn) fun ρ10 l10 new new' hnew => ?_
                  refine srel_bind (srel_zeroValue hz) fun ρ11 l11 z z' hzz => ?_
                  have hcells : RowRel ρ11 (old ++ new ++ Builtin.zeroCells z.cells (nc - (sl + n))) (old' ++ new' ++ Builtin.zeroCells z'.cells (nc - (sl + n))) := by
                    refine (((hold.mono l10).mono l11).append (hnew.mono l11)).append ?_
                    unfold Builtin.zeroCells
                    have := hzz.1.cells
                    rw [← this.1]
                    exact this.repeated _ _
                  exact srel_map (srel_newRow elem hcells) fun ρ12 l12 a b hab => .slice _ _ hab
          | sliceNil sl sc =>
            refine srel_bind (srel_sizeOf elem) fun ρ2 l2 m m' hm => ?_
            obtain ⟨rfl, _⟩ := hm
            refine both _ _ ρ2 l2 fun ρ2' l2' => ?_
            have hxx := (hx1.mono l2).mono l2'
            have hbb : VRel ρ2' (.slice none sl sc) (.slice none sl sc) := .sliceNil sl sc
            simp only [Bool.false_eq_true, if_false, Bool.not_false, if_true, false_or]
            refine srel_bind (srel_lenOf hxx) fun ρ3 l3 n n' hn => ?_
            obtain ⟨rfl, hn⟩ := hn
            have hx3 := hxx.mono l3
            have hb3 := hbb.mono l3
            split
            · refine srel_bind (srel_firstCells m n hx3 hn) fun ρ4 l4 new new' hnew => ?_
              exact .pure (.sliceNil _ _)
            · refine srel_bind (srel_typeInfo elem) fun ρ4 l4 i i' hi => ?_
              obtain ⟨rfl, _⟩ := hi
              split
              · exact srel_bind (R := fun _ _ _ => False) (srel_rpanic (by trivial) (by trivial)) fun _ _ _ _ h => h.elim
              · refine srel_bind (srel_typeInfo elem) fun ρ5 l5 i i' hi => ?_
                obtain ⟨rfl, _⟩ := hi
                split
                · refine .dead ?_ _
                  refine Dead.bind ((passes_mayShare _ _ _ _ _).out _ fun b => ?_) _
                  cases b
                  · exact .mark _ (.halt _)
                  · exact .halt _
                · refine srel_bind (R := fun _ a b => a = b) (.choose _ fun z => .pure rfl) fun ρ6 l6 nc nc' hnc => ?_
                  subst hnc
                  refine srel_bind (srel_typeInfo elem) fun ρ7 l7 i i' hi => ?_
                  obtain ⟨rfl, _⟩ := hi
                  refine srel_bind (srel_askRoom _) fun ρ8 l8 _ _ _ => ?_
                  have hle := l4.trans (l5.trans (l6.trans (l7.trans l8)))
                  refine srel_bind (srel_firstCells m sl (hb3.mono hle) fun e => by obtain ⟨x, e⟩ := e; cases e) fun ρ9 l9 old old' hold => ?_
                  refine srel_bind (srel_firstCells m n ((hx3.mono hle).mono l9) hn) fun ρ10 l10 new new' hnew => ?_
                  refine srel_bind (srel_zeroValue hz) fun ρ11 l11 z z' hzz => ?_
                  have hcells : RowRel ρ11 (old ++ new ++ Builtin.zeroCells z.cells (nc - (sl + n))) (old' ++ new' ++ Builtin.zeroCells z'.cells (nc - (sl + n))) := by
                    refine (((hold.mono l10).mono l11).append (hnew.mono l11)).append ?_
                    unfold Builtin.zeroCells
                    have := hzz.1.cells
                    rw [← this.1]
                    exact this.repeated _ _
                  exact srel_map (srel_newRow elem hcells) fun ρ12 l12 a b hab => .slice _ _ hab
          | sliceE pd ad =>
            refine srel_bind (srel_sizeOf elem) fun ρ2 l2 m m' hm => ?_
            obtain ⟨rfl, _⟩ := hm
            refine both _ _ ρ2 l2 fun ρ2' l2' => ?_
            have hxx := (hx1.mono l2).mono l2'
            have hbb : VRel ρ2' (.slice (some pd) 0 0) (.slice (some ad) 0 0) := .sliceE pd ad
            simp only [Bool.false_eq_true, if_false, Bool.not_false, if_true, false_or]
            refine srel_bind (srel_lenOf hxx) fun ρ3 l3 n n' hn => ?_
            obtain ⟨rfl, hn⟩ := hn
            have hx3 := hxx.mono l3
            have hb3 := hbb.mono l3
            split
            · rename_i hle0
              have hn0 : n = 0 := by omega
              subst hn0
              refine srel_bind (firstCells_none m hx3) fun ρ4 l4 new new' hnew => ?_
              obtain ⟨rfl, rfl⟩ := hnew
              exact .pure (.sliceE _ _)
            · refine srel_bind (srel_typeInfo elem) fun ρ4 l4 i i' hi => ?_
              obtain ⟨rfl, _⟩ := hi
              split
              · exact srel_bind (R := fun _ _ _ => False) (srel_rpanic (by trivial) (by trivial)) fun _ _ _ _ h => h.elim
              · refine srel_bind (srel_typeInfo elem) fun ρ5 l5 i i' hi => ?_
                obtain ⟨rfl, _⟩ := hi
                split
                · refine .dead ?_ _
                  refine Dead.bind ((passes_mayShare _ _ _ _ _).out _ fun b => ?_) _
                  cases b
                  · exact .mark _ (.halt _)
                  · exact .halt _
                · refine srel_bind (R := fun _ a b => a = b) (.choose _ fun z => .pure rfl) fun ρ6 l6 nc nc' hnc => ?_
                  subst hnc
                  refine srel_bind (srel_typeInfo elem) fun ρ7 l7 i i' hi => ?_
                  obtain ⟨rfl, _⟩ := hi
                  refine srel_bind (srel_askRoom _) fun ρ8 l8 _ _ _ => ?_
                  have hle := l4.trans (l5.trans (l6.trans (l7.trans l8)))
                  refine srel_bind (srel_firstCells m 0 (hb3.mono hle) fun e => by obtain ⟨x, e⟩ := e; cases e; rfl) fun ρ9 l9 old old' hold => ?_
                  refine srel_bind (srel_firstCells m n ((hx3.mono hle).mono l9) hn) fun ρ10 l10 new new' hnew => ?_
                  refine srel_bind (srel_zeroValue hz) fun ρ11 l11 z z' hzz => ?_
                  have hcells : RowRel ρ11 (old ++ new ++ Builtin.zeroCells z.cells (nc - (0 + n))) (old' ++ new' ++ Builtin.zeroCells z'.cells (nc - (0 + n))) := by
                    refine (((hold.mono l10).mono l11).append (hnew.mono l11)).append ?_
                    unfold Builtin.zeroCells
                    have := hzz.1.cells
                    rw [← this.1]
                    exact this.repeated _ _
                  exact srel_map (srel_newRow elem hcells) fun ρ12 l12 a b hab => .slice _ _ hab
          | _ => exact .halt _ _
        | _ => exact .halt _ _
end
end Go.Proofs.Ytkodpijedinanaa.Sim

namespace Go.Proofs.Ytkodpijedinanaa.Sim
open Go
set_option linter.unusedVariables false
set_option linter.unusedSimpArgs false

section
variable {P : Program} {ρ : Ren}
theorem srel_cap (ats : Array TypeId) (ty : TypeId) {c d : Array Value} (h : RowRel ρ c d) (hch : ∀ t, ats[0]? = some t → ∃ e, P.underlying t = some (.slice e)) : SemRel P VRel ρ (Builtin.cap_ ats ty c) (Builtin.cap_ ats ty d) := by
  unfold Builtin.cap_
  have h0 : ∀ v, c[0]? = some v → ∃ w, d[0]? = some w ∧ VRel ρ v w := fun v hv => h.at hv
  cases hc : c[0]? with
  | none =>
    rw [h.none hc]
    cases ats[0]? <;> exact .halt _ _
  | some v =>
    obtain ⟨w, hw, hvw⟩ := h0 v hc
    rw [hw]
    cases ht : ats[0]? with
    | none => exact .halt _ _
    | some t =>
      obtain ⟨e, he⟩ := hch t ht
      refine srel_bind (srel_underlying t) fun ρ1 l1 a b hab => ?_
      obtain ⟨rfl, hu⟩ := hab
      rw [he] at hu
      cases hu
      have h1 := hvw.mono l1
      cases h1 <;> first | exact .pure (.int _ _) | exact .halt _ _
theorem srel_copy (ats : Array TypeId) (ty : TypeId) {c d : Array Value} (h : RowRel ρ c d) : SemRel P VRel ρ (Builtin.copy_ ats ty c) (Builtin.copy_ ats ty d) := by
  unfold Builtin.copy_
  cases ht : ats[0]? with
  | none => exact .halt _ _
  | some sT =>
    cases hc0 : c[0]? with
    | none => exact .halt _ _
    | some v =>
      obtain ⟨w, hw, hvw⟩ := h.at hc0
      cases hc1 : c[1]? with
      | none => exact .halt _ _
      | some x =>
        obtain ⟨y, hy, hxy⟩ := h.at hc1
        rw [hw, hy]
        dsimp only
        refine srel_bind (srel_underlying sT) fun ρ1 l1 a b hab => ?_
        obtain ⟨rfl, hu⟩ := hab
        cases a with
        | slice elem =>
          have hv1 := hvw.mono l1
          have hx1 := hxy.mono l1
          have key : ∀ (p q : Option Addr) (dl : Nat), ((p = none ∧ (q = none ∨ dl = 0)) ∨ ∃ a b, p = some a ∧ q = some b ∧ ARel ρ1 a b) → SemRel P VRel ρ1 (do
              let n := Nat.min (← Builtin.lenOf x) dl
              let cells ← Builtin.firstCells (← sizeOf elem) n x
              if let some a := p then storeCells a cells.toList
              pure (goInt n)) (do
              let n := Nat.min (← Builtin.lenOf y) dl
              let cells ← Builtin.firstCells (← sizeOf elem) n y
              if let some a := q then storeCells a cells.toList
              pure (goInt n)) := fun p q dl hpq => by
            refine srel_bind (srel_lenOf hx1) fun ρ2 l2 n n' hn => ?_
            obtain ⟨rfl, hn⟩ := hn
            refine srel_bind (srel_sizeOf elem) fun ρ3 l3 m m' hm => ?_
            obtain ⟨rfl, _⟩ := hm
            have hx3 := (hx1.mono l2).mono l3
            have hd0 : dl = 0 → SemRel P (fun _ a b => a = #[] ∧ b = #[]) ρ3 (Builtin.firstCells m (Nat.min n dl) x) (Builtin.firstCells m (Nat.min n dl) y) := fun e => by
              subst e
              rw [show Nat.min n 0 = 0 from Nat.min_zero n]
              exact firstCells_none m hx3
            rcases hpq with ⟨rfl, rfl | rfl⟩ | ⟨a, b, rfl, rfl, hab⟩
            · refine srel_bind (srel_firstCells m _ hx3 fun e => by rw [hn e]; exact Nat.zero_min dl) fun ρ4 l4 cs cs' hcs => ?_
              exact .pure (.int _ _)
            · refine srel_bind (hd0 rfl) fun ρ4 l4 cs cs' hcs => ?_
              obtain ⟨rfl, rfl⟩ := hcs
              cases q with
              | none => exact .pure (.int _ _)
              | some q => exact .pure (.int _ _)
            · refine srel_bind (srel_firstCells m _ hx3 fun e => by rw [hn e]; exact Nat.zero_min dl) fun ρ4 l4 cs cs' hcs => ?_
              have := ((hab.mono l2).mono l3).mono l4
              refine srel_bind (srel_storeCells this _ _ 0 hcs.toList.1 hcs.toList.2) fun ρ5 l5 _ _ _ => ?_
              exact .pure (.int _ _)
          have key2 : ∀ (p q : Addr), SemRel P VRel ρ1 (do
              let n := Nat.min (← Builtin.lenOf x) 0
              let cells ← Builtin.firstCells (← sizeOf elem) n x
              storeCells p cells.toList
              pure (goInt n)) (do
              let n := Nat.min (← Builtin.lenOf y) 0
              let cells ← Builtin.firstCells (← sizeOf elem) n y
              storeCells q cells.toList
              pure (goInt n)) := fun p q => by
            refine srel_bind (srel_lenOf hx1) fun ρ2 l2 n n' hn => ?_
            obtain ⟨rfl, hn⟩ := hn
            refine srel_bind (srel_sizeOf elem) fun ρ3 l3 m m' hm => ?_
            obtain ⟨rfl, _⟩ := hm
            have hx3 := (hx1.mono l2).mono l3
            rw [show Nat.min n 0 = 0 from Nat.min_zero n]
            refine srel_bind (firstCells_none m hx3) fun ρ4 l4 cs cs' hcs => ?_
            obtain ⟨rfl, rfl⟩ := hcs
            exact .pure (.int _ _)
          cases hv1 with
          | slice n cc q => exact key _ _ n (.inr ⟨_, _, rfl, rfl, q⟩)
          | sliceNil n cc => exact key _ _ n (.inl ⟨rfl, .inl rfl⟩)
          | sliceE pd ad => exact key2 _ _
          | _ => exact .halt _ _
        | _ => exact .halt _ _
theorem srel_bound {v w : Value} (y : Nat) (code : BoundsCode) (h : VRel ρ v w) : SemRel P (fun _ a b => a = b ∧ a ≤ y) ρ (Instr.sliceBound v y code) (Instr.sliceBound w y code) := by
  unfold Instr.sliceBound
  refine srel_bind (srel_asIntOf h) fun ρ1 l1 n n' hn => ?_
  subst hn
  obtain ⟨k, i⟩ := n
  dsimp only
  split
  · rename_i hi
    exact .pure ⟨rfl, by omega⟩
  · exact srel_bpanic _ _ _ _
def OptRel (ρ : Ren) (a b : Option Value) : Prop := (a = none ∧ b = none) ∨ ∃ v w, a = some v ∧ b = some w ∧ VRel ρ v w
theorem OptRel.mono {ρ' : Ren} {a b : Option Value} (h : OptRel ρ a b) (hl : Ren.le ρ ρ') : OptRel ρ' a b := h.imp id fun ⟨v, w, h1, h2, h3⟩ => ⟨v, w, h1, h2, h3.mono hl⟩
theorem srel_bounds (isS : Bool) (len cap : Nat) {low low' high high' : Option Value} (h1 : OptRel ρ low low') (h2 : OptRel ρ high high') :
    SemRel P (fun _ a b => a = b ∧ (cap = 0 → len = 0 → a = (0, 0, 0))) ρ (Instr.sliceBounds isS len cap low high none) (Instr.sliceBounds isS len cap low' high' none) := by
  unfold Instr.sliceBounds
  have tail : ∀ ρ2, Ren.le ρ ρ2 → ∀ h : Nat, (cap = 0 → len = 0 → h = 0) → SemRel P (fun _ a b => a = b ∧ (cap = 0 → len = 0 → a = (0, 0, 0))) ρ2 (do
      let l ← match low with
        | some v => Instr.sliceBound v h (if (none : Option Value).isSome then .slice3C else .sliceB)
        | none => pure 0
      pure (l, h, cap)) (do
      let l ← match low' with
        | some v => Instr.sliceBound v h (if (none : Option Value).isSome then .slice3C else .sliceB)
        | none => pure 0
      pure (l, h, cap)) := fun ρ2 l2 h hz => by
    rcases h1 with ⟨rfl, rfl⟩ | ⟨v, w, rfl, rfl, hv⟩
    · exact .pure ⟨rfl, fun e1 e2 => by rw [hz e1 e2, e1]⟩
    · refine srel_map (srel_bound h _ (hv.mono l2)) fun ρ3 l3 a b hab => ?_
      obtain ⟨rfl, hle⟩ := hab
      exact ⟨rfl, fun e1 e2 => by have := hz e1 e2; have : a = 0 := by omega
                                  rw [this, hz e1 e2, e1]⟩
  rcases h2 with ⟨rfl, rfl⟩ | ⟨v, w, rfl, rfl, hv⟩
  · exact tail ρ (Ren.le.refl _) len fun _ e => e
  · refine srel_bind (srel_bound cap _ hv) fun ρ3 l3 a b hab => ?_
    obtain ⟨rfl, hle⟩ := hab
    exact tail ρ3 l3 a fun e1 _ => by omega
theorem srel_slice (t : TypeId) {v w : Value} {low low' high high' : Option Value} (h : VRel ρ v w) (h1 : OptRel ρ low low') (h2 : OptRel ρ high high') (ht : ∃ e, P.underlying t = some (.slice e)) :
    SemRel P VRel ρ (Instr.slice t v low high none) (Instr.slice t w low' high' none) := by
  unfold Instr.slice
  refine srel_bind (srel_underlying t) fun ρ1 l1 a b hab => ?_
  obtain ⟨rfl, hu⟩ := hab
  obtain ⟨e, he⟩ := ht
  rw [he] at hu
  cases hu
  have hv := h.mono l1
  cases hv with
  | slice n c q =>
    refine srel_bind (srel_bounds true n c (h1.mono l1) (h2.mono l1)) fun ρ2 l2 x y hxy => ?_
    obtain ⟨rfl, -⟩ := hxy
    obtain ⟨l, hh, m⟩ := x
    refine srel_bind (srel_sizeOf e) fun ρ3 l3 z z' hz => ?_
    obtain ⟨rfl, _⟩ := hz
    split
    · exact .pure (.slice _ _ ((q.mono l2).mono l3))
    · exact .pure (.slice _ _ (((q.mono l2).mono l3).add _))
  | sliceNil n c =>
    refine srel_bind (srel_bounds true n c (h1.mono l1) (h2.mono l1)) fun ρ2 l2 x y hxy => ?_
    obtain ⟨rfl, -⟩ := hxy
    obtain ⟨l, hh, m⟩ := x
    refine srel_bind (srel_sizeOf e) fun ρ3 l3 z z' hz => ?_
    obtain ⟨rfl, _⟩ := hz
    split <;> exact .pure (.sliceNil _ _)
  | sliceE pd ad =>
    refine srel_bind ((srel_bounds true 0 0 (h1.mono l1) (h2.mono l1)).weak (S := fun _ a b => a = b ∧ a = (0, 0, 0)) fun ρ' l a b hab => ?_) fun ρ2 l2 x y hxy => ?_
    · exact ⟨hab.1, hab.2 rfl rfl⟩
    · obtain ⟨rfl, rfl⟩ := hxy
      refine srel_bind (srel_sizeOf e) fun ρ3 l3 z z' hz => ?_
      obtain ⟨rfl, _⟩ := hz
      exact .pure (.sliceE _ _)
  | _ => exact .halt _ _
end
end Go.Proofs.Ytkodpijedinanaa.Sim
