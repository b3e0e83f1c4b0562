/- Tallies of three branches: the plain law. -/
import Derived.Test.YtkeefpeffeoakaaClockP
namespace Go.Proofs.Ytkeefpeffeoakaa
set_option linter.unusedVariables false

/-- A tally of three branches. -/
structure Tl where
  m : Nat → Nat → Int
  u : Nat → Int
def row3 (f : Nat → Int) : List Int := [f 0, f 1, f 2]
@[simp] theorem row3_length (f : Nat → Int) : (row3 f).length = 3 := rfl
theorem row3_get (f : Nat → Int) (k : Nat) (h : k < 3) : (row3 f)[k]? = some (f k) := by
  match k, h with
  | 0, _ => rfl
  | 1, _ => rfl
  | 2, _ => rfl
/-- What is counted behind k of the branches. -/
def tlPart (t : Tl) (w : Nat) : Nat → Int
  | 0 => t.m w w - t.u w
  | k + 1 => if k = w then tlPart t w k else tlPart t w k + (t.m k w - t.m w k)
def tlLeft (t : Tl) (w : Nat) : Int := tlPart t w 3
def tlBlank : Tl := ⟨fun _ _ => 0, fun _ => 0⟩
def tlMint (t : Tl) (w : Nat) (c : Int) : Tl := ⟨fun i j => if i = w ∧ j = w then t.m i j + c else t.m i j, t.u⟩
def tlMove (t : Tl) (w o : Nat) (c : Int) : Tl := ⟨fun i j => if i = w ∧ j = o then t.m i j + c else t.m i j, t.u⟩
def tlUse (t : Tl) (w : Nat) (c : Int) : Tl := ⟨t.m, fun i => if i = w then t.u i + c else t.u i⟩
def tlMax (a b : Tl) : Tl := ⟨fun i j => max (a.m i j) (b.m i j), fun i => max (a.u i) (b.u i)⟩
/-- All between 0 and B. -/
def TlIn (t : Tl) (B : Int) : Prop := (∀ i j, i < 3 → j < 3 → 0 ≤ t.m i j ∧ t.m i j ≤ B) ∧ ∀ i, i < 3 → 0 ≤ t.u i ∧ t.u i ≤ B
theorem TlIn.mono {t : Tl} {B C : Int} (h : TlIn t B) (hc : B ≤ C) : TlIn t C :=
  ⟨fun i j hi hj => by have := h.1 i j hi hj; omega, fun i hi => by have := h.2 i hi; omega⟩
/-- Three tallies that are known. -/
structure TlInv (N B : Int) (ts : Nat → Tl) : Prop where
  bd : ∀ v, v < 3 → TlIn (ts v) B
  le : ∀ v i j, v < 3 → i < 3 → j < 3 → (ts v).m i j ≤ (ts i).m i j
  leu : ∀ v i, v < 3 → i < 3 → (ts v).u i ≤ (ts i).u i
  diag : ∀ i, i < 3 → (ts i).m i i = if i = 0 then N else 0
  left : ∀ v, v < 3 → 0 ≤ tlLeft (ts v) v
def upd (ts : Nat → Tl) (w : Nat) (t : Tl) : Nat → Tl := fun v => if v = w then t else ts v
theorem tlLeft_move (t : Tl) (w o : Nat) (c : Int) (hw : w < 3) (ho : o < 3) (hne : w ≠ o) (v : Nat) (hv : v < 3) :
    tlLeft (tlMove t w o c) v = tlLeft t v + (if v = w then -c else 0) + (if v = o then c else 0) := by
  have e : w = 0 ∨ w = 1 ∨ w = 2 := by omega
  have e2 : o = 0 ∨ o = 1 ∨ o = 2 := by omega
  have e3 : v = 0 ∨ v = 1 ∨ v = 2 := by omega
  rcases e with rfl | rfl | rfl <;> rcases e2 with rfl | rfl | rfl <;> rcases e3 with rfl | rfl | rfl <;> simp [tlLeft, tlPart, tlMove] at * <;> omega
theorem tlLeft_use (t : Tl) (w : Nat) (c : Int) (hw : w < 3) : tlLeft (tlUse t w c) w = tlLeft t w - c := by
  have e : w = 0 ∨ w = 1 ∨ w = 2 := by omega
  rcases e with rfl | rfl | rfl <;> simp [tlLeft, tlPart, tlUse] <;> omega
theorem tlLeft_max {N B : Int} {ts : Nat → Tl} (h : TlInv N B ts) (w o : Nat) (hw : w < 3) (ho : o < 3) : tlLeft (ts w) w ≤ tlLeft (tlMax (ts w) (ts o)) w := by
  have a0 := h.le o w 0 ho hw (by omega)
  have a1 := h.le o w 1 ho hw (by omega)
  have a2 := h.le o w 2 ho hw (by omega)
  have au := h.leu o w ho hw
  have e : w = 0 ∨ w = 1 ∨ w = 2 := by omega
  rcases e with rfl | rfl | rfl <;> simp [tlLeft, tlPart, tlMax] <;> omega
theorem TlInv.move {N B : Int} {ts : Nat → Tl} (h : TlInv N B ts) (w o : Nat) (hw : w < 3) (ho : o < 3) (hne : w ≠ o) (c : Int) (h0 : 0 ≤ c) (h9 : c ≤ 9) (hl : c ≤ tlLeft (ts w) w) : TlInv N (B + 9) (upd ts w (tlMove (ts w) w o c)) := by
  refine ⟨fun v hv => ⟨fun i j hi hj => ?_, fun i hi => ?_⟩, fun v i j hv hi hj => ?_, fun v i hv hi => ?_, fun i hi => ?_, fun v hv => ?_⟩
  · have a := (h.bd w hw).1 i j hi hj
    have b := (h.bd v hv).1 i j hi hj
    unfold upd; split
    · simp only [tlMove]; split <;> omega
    · omega
  · have a := (h.bd w hw).2 i hi
    have b := (h.bd v hv).2 i hi
    unfold upd; split
    · simp only [tlMove]; omega
    · omega
  · have a := h.le v i j hv hi hj
    unfold upd
    by_cases e1 : v = w <;> by_cases e2 : i = w
    · subst e1; subst e2; simp
    · subst e1; simp only [if_true, if_neg e2, tlMove]; simp [e2]; exact a
    · subst e2; simp only [if_true, if_neg e1, tlMove]; split <;> omega
    · simp only [if_neg e1, if_neg e2]; exact a
  · have a := h.leu v i hv hi
    unfold upd
    by_cases e1 : v = w <;> by_cases e2 : i = w
    · subst e1; subst e2; simp
    · subst e1; simp only [if_true, if_neg e2, tlMove]; exact a
    · subst e2; simp only [if_true, if_neg e1, tlMove]; exact a
    · simp only [if_neg e1, if_neg e2]; exact a
  · have a := h.diag i hi
    unfold upd; split
    · next e => subst e; simp only [tlMove]; rw [if_neg (by omega)]; exact a
    · exact a
  · have a := h.left v hv
    unfold upd; split
    · next e =>
      subst e
      rw [tlLeft_move _ _ _ _ hw ho hne _ hw]
      simp [hne]; omega
    · exact a
theorem TlInv.use {N B : Int} {ts : Nat → Tl} (h : TlInv N B ts) (w : Nat) (hw : w < 3) (c : Int) (h0 : 0 ≤ c) (h9 : c ≤ 9) (hl : c ≤ tlLeft (ts w) w) : TlInv N (B + 9) (upd ts w (tlUse (ts w) w c)) := by
  refine ⟨fun v hv => ⟨fun i j hi hj => ?_, fun i hi => ?_⟩, fun v i j hv hi hj => ?_, fun v i hv hi => ?_, fun i hi => ?_, fun v hv => ?_⟩
  · have a := (h.bd w hw).1 i j hi hj
    have b := (h.bd v hv).1 i j hi hj
    unfold upd; split
    · simp only [tlUse]; omega
    · omega
  · have a := (h.bd w hw).2 i hi
    have b := (h.bd v hv).2 i hi
    unfold upd; split
    · simp only [tlUse]; split <;> omega
    · omega
  · have a := h.le v i j hv hi hj
    unfold upd
    by_cases e1 : v = w <;> by_cases e2 : i = w
    · subst e1; subst e2; simp
    · subst e1; simp only [if_true, if_neg e2, tlUse]; exact a
    · subst e2; simp only [if_true, if_neg e1, tlUse]; exact a
    · simp only [if_neg e1, if_neg e2]; exact a
  · have a := h.leu v i hv hi
    unfold upd
    by_cases e1 : v = w <;> by_cases e2 : i = w
    · subst e1; subst e2; simp
    · subst e1; simp only [if_true, if_neg e2, tlUse]; exact a
    · subst e2; simp only [if_true, if_neg e1, tlUse]; omega
    · simp only [if_neg e1, if_neg e2]; exact a
  · have a := h.diag i hi
    unfold upd; split
    · next e => subst e; simp only [tlUse]; exact a
    · exact a
  · have a := h.left v hv
    unfold upd; split
    · next e =>
      subst e
      rw [tlLeft_use _ _ _ hw]; omega
    · exact a
theorem TlInv.max {N B : Int} {ts : Nat → Tl} (h : TlInv N B ts) (w o : Nat) (hw : w < 3) (ho : o < 3) : TlInv N (B + 9) (upd ts w (tlMax (ts w) (ts o))) := by
  refine ⟨fun v hv => ⟨fun i j hi hj => ?_, fun i hi => ?_⟩, fun v i j hv hi hj => ?_, fun v i hv hi => ?_, fun i hi => ?_, fun v hv => ?_⟩
  · have a := (h.bd w hw).1 i j hi hj
    have b := (h.bd v hv).1 i j hi hj
    have c := (h.bd o ho).1 i j hi hj
    unfold upd; split
    · simp only [tlMax]; omega
    · omega
  · have a := (h.bd w hw).2 i hi
    have b := (h.bd v hv).2 i hi
    have c := (h.bd o ho).2 i hi
    unfold upd; split
    · simp only [tlMax]; omega
    · omega
  · have a := h.le v i j hv hi hj
    have b := h.le o i j ho hi hj
    have c := h.le w i j hw hi hj
    unfold upd
    by_cases e1 : v = w <;> by_cases e2 : i = w
    · subst e1; subst e2; simp
    · subst e1; simp only [if_true, if_neg e2, tlMax]; omega
    · subst e2; simp only [if_true, if_neg e1, tlMax]; omega
    · simp only [if_neg e1, if_neg e2]; exact a
  · have a := h.leu v i hv hi
    have b := h.leu o i ho hi
    have c := h.leu w i hw hi
    unfold upd
    by_cases e1 : v = w <;> by_cases e2 : i = w
    · subst e1; subst e2; simp
    · subst e1; simp only [if_true, if_neg e2, tlMax]; omega
    · subst e2; simp only [if_true, if_neg e1, tlMax]; omega
    · simp only [if_neg e1, if_neg e2]; exact a
  · have a := h.diag i hi
    unfold upd; split
    · next e =>
      subst e
      have b := h.le o i i ho hi hi
      simp only [tlMax]; rw [← a]; omega
    · exact a
  · have a := h.left v hv
    unfold upd; split
    · next e =>
      subst e
      have := tlLeft_max h v o hw ho
      omega
    · exact a
theorem TlInv.start (N : Int) (h0 : 0 ≤ N) (h : N ≤ 50) : TlInv N 50 (fun v => if v = 0 then tlMint tlBlank 0 N else tlBlank) := by
  refine ⟨fun v hv => ⟨fun i j hi hj => ?_, fun i hi => ?_⟩, fun v i j hv hi hj => ?_, fun v i hv hi => ?_, fun i hi => ?_, fun v hv => ?_⟩
  · by_cases hv0 : v = 0
    · simp only [if_pos hv0, tlMint, tlBlank]; split <;> omega
    · simp only [if_neg hv0, tlBlank]; omega
  · by_cases hv0 : v = 0 <;> simp [hv0, tlMint, tlBlank]
  · by_cases e1 : v = 0 <;> by_cases e2 : i = 0 <;> simp [e1, e2, tlMint, tlBlank]
    split <;> omega
  · by_cases e1 : v = 0 <;> by_cases e2 : i = 0 <;> simp [e1, e2, tlMint, tlBlank]
  · by_cases e1 : i = 0 <;> simp [e1, tlMint, tlBlank]
  · have e3 : v = 0 ∨ v = 1 ∨ v = 2 := by omega
    rcases e3 with rfl | rfl | rfl <;> simp [tlLeft, tlPart, tlMint, tlBlank] <;> omega
theorem TlInv.more {N B : Int} {ts : Nat → Tl} (h : TlInv N B ts) : TlInv N (B + 9) ts := ⟨fun v hv => (h.bd v hv).mono (by omega), h.le, h.leu, h.diag, h.left⟩
/-- All that is known, joined. -/
def tlAll (ts : Nat → Tl) : Nat → Tl
  | 0 => tlBlank
  | k + 1 => tlMax (tlAll ts k) (ts k)
theorem tlAll_in {N B : Int} {ts : Nat → Tl} (h : TlInv N B ts) (hB : 0 ≤ B) : ∀ k, k ≤ 3 → TlIn (tlAll ts k) B
  | 0, _ => ⟨fun i j _ _ => by simp [tlAll, tlBlank]; exact hB, fun i _ => by simp [tlAll, tlBlank]; exact hB⟩
  | k + 1, hk => by
    have a := tlAll_in h hB k (by omega)
    have b := h.bd k (by omega)
    exact ⟨fun i j hi hj => by have := a.1 i j hi hj; have := b.1 i j hi hj; simp only [tlAll, tlMax]; omega, fun i hi => by have := a.2 i hi; have := b.2 i hi; simp only [tlAll, tlMax]; omega⟩
theorem tlAll_m {N B : Int} {ts : Nat → Tl} (h : TlInv N B ts) (i j : Nat) (hi : i < 3) (hj : j < 3) : (tlAll ts 3).m i j = (ts i).m i j := by
  have a0 := h.le 0 i j (by omega) hi hj
  have a1 := h.le 1 i j (by omega) hi hj
  have a2 := h.le 2 i j (by omega) hi hj
  have b := (h.bd i hi).1 i j hi hj
  have e : i = 0 ∨ i = 1 ∨ i = 2 := by omega
  rcases e with rfl | rfl | rfl <;> simp only [tlAll, tlMax, tlBlank] <;> omega
theorem tlAll_u {N B : Int} {ts : Nat → Tl} (h : TlInv N B ts) (i : Nat) (hi : i < 3) : (tlAll ts 3).u i = (ts i).u i := by
  have a0 := h.leu 0 i (by omega) hi
  have a1 := h.leu 1 i (by omega) hi
  have a2 := h.leu 2 i (by omega) hi
  have b := (h.bd i hi).2 i hi
  have e : i = 0 ∨ i = 1 ∨ i = 2 := by omega
  rcases e with rfl | rfl | rfl <;> simp only [tlAll, tlMax, tlBlank] <;> omega
/-- What is left, by all that is known, is no less than by what one knows. -/
theorem tlLeft_all {N B : Int} {ts : Nat → Tl} (h : TlInv N B ts) (w : Nat) (hw : w < 3) : tlLeft (ts w) w ≤ tlLeft (tlAll ts 3) w := by
  have f : ∀ i j, i < 3 → j < 3 → (tlAll ts 3).m i j = (ts i).m i j := fun i j => tlAll_m h i j
  have g : ∀ i, i < 3 → (tlAll ts 3).u i = (ts i).u i := fun i => tlAll_u h i
  generalize tlAll ts 3 = A at *
  have a : ∀ i, i < 3 → (ts w).m i w ≤ (ts i).m i w := fun i hi => h.le w i w hw hi hw
  have a0 := a 0 (by omega)
  have a1 := a 1 (by omega)
  have a2 := a 2 (by omega)
  have e : w = 0 ∨ w = 1 ∨ w = 2 := by omega
  rcases e with rfl | rfl | rfl <;> simp only [tlLeft, tlPart, f _ _ (show 0 < 3 by omega) (show 0 < 3 by omega), f _ _ (show 0 < 3 by omega) (show 1 < 3 by omega), f _ _ (show 0 < 3 by omega) (show 2 < 3 by omega), f _ _ (show 1 < 3 by omega) (show 0 < 3 by omega), f _ _ (show 1 < 3 by omega) (show 1 < 3 by omega), f _ _ (show 1 < 3 by omega) (show 2 < 3 by omega), f _ _ (show 2 < 3 by omega) (show 0 < 3 by omega), f _ _ (show 2 < 3 by omega) (show 1 < 3 by omega), f _ _ (show 2 < 3 by omega) (show 2 < 3 by omega), g _ (show 0 < 3 by omega), g _ (show 1 < 3 by omega), g _ (show 2 < 3 by omega)] <;> simp <;> omega
theorem tlAll_sum {N B : Int} {ts : Nat → Tl} (h : TlInv N B ts) : (tlLeft (tlAll ts 3) 0 + (tlAll ts 3).u 0) + (tlLeft (tlAll ts 3) 1 + (tlAll ts 3).u 1) + (tlLeft (tlAll ts 3) 2 + (tlAll ts 3).u 2) = N := by
  have d0 := h.diag 0 (by omega)
  have d1 := h.diag 1 (by omega)
  have d2 := h.diag 2 (by omega)
  rw [← tlAll_m h _ _ (by omega) (by omega)] at d0 d1 d2
  generalize tlAll ts 3 = A at *
  simp [tlLeft, tlPart] at *
  omega
theorem tlUsed {N B : Int} {ts : Nat → Tl} (h : TlInv N B ts) : (ts 0).u 0 + (ts 1).u 1 + (ts 2).u 2 ≤ N := by
  have s := tlAll_sum h
  rw [tlAll_u h 0 (by omega), tlAll_u h 1 (by omega), tlAll_u h 2 (by omega)] at s
  have a0 := tlLeft_all h 0 (by omega)
  have a1 := tlLeft_all h 1 (by omega)
  have a2 := tlLeft_all h 2 (by omega)
  have b0 := h.left 0 (by omega)
  have b1 := h.left 1 (by omega)
  have b2 := h.left 2 (by omega)
  omega
/-- What there is of all that one knows. -/
theorem tlBefore {N B : Int} {ts : Nat → Tl} (h : TlInv N B ts) (w : Nat) (hw : w < 3) : tlLeft (ts w) 0 + tlLeft (ts w) 1 + tlLeft (ts w) 2 ≤ N := by
  have d0 := h.diag 0 (by omega)
  have d1 := h.diag 1 (by omega)
  have d2 := h.diag 2 (by omega)
  have a0 := h.le w 0 0 hw (by omega) (by omega)
  have a1 := h.le w 1 1 hw (by omega) (by omega)
  have a2 := h.le w 2 2 hw (by omega) (by omega)
  have u0 := (h.bd w hw).2 0 (by omega)
  have u1 := (h.bd w hw).2 1 (by omega)
  have u2 := (h.bd w hw).2 2 (by omega)
  simp [tlLeft, tlPart] at *
  omega
theorem tlMax_comm (a b : Tl) : tlMax a b = tlMax b a := by
  unfold tlMax; congr 1
  · funext i j; omega
  · funext i; omega
theorem tlMax_assoc (a b c : Tl) : tlMax (tlMax a b) c = tlMax a (tlMax b c) := by
  unfold tlMax; congr 1
  · funext i j; simp only; omega
  · funext i; simp only; omega
theorem tlMax_self (a : Tl) : tlMax a a = a := by
  unfold tlMax
  obtain ⟨m, u⟩ := a
  congr 1
  · funext i j; simp only; omega
  · funext i; simp only; omega
theorem TlIn.max {a b : Tl} {B : Int} (ha : TlIn a B) (hb : TlIn b B) : TlIn (tlMax a b) B :=
  ⟨fun i j hi hj => by have := ha.1 i j hi hj; have := hb.1 i j hi hj; simp only [tlMax]; omega, fun i hi => by have := ha.2 i hi; have := hb.2 i hi; simp only [tlMax]; omega⟩
/-- An affair: kind, who, to, count. -/
structure Aff where
  kind : Int
  who : Int
  dest : Int
  count : Int
def Aff.cells (x : Aff) : List Value := [.int .i64 x.kind, .int .i64 x.who, .int .i64 x.dest, .int .i64 x.count]
theorem Aff.cells_length (x : Aff) : x.cells.length = 4 := rfl
def affs (l : List Aff) : List Value := l.flatMap Aff.cells
def affWho (a : Aff) : Nat := (pick a.who 3).toNat
def affTo (a : Aff) : Nat := (affWho a + 1 + (pick a.dest 2).toNat) % 3
def affCount (a : Aff) : Int := 1 + pick a.count 9
def affStep (ts : Nat → Tl) (a : Aff) : Nat → Tl :=
  if pick a.kind 5 = 0 then (if affCount a ≤ tlLeft (ts (affWho a)) (affWho a) then upd ts (affWho a) (tlMove (ts (affWho a)) (affWho a) (affTo a) (affCount a)) else ts)
  else if pick a.kind 5 ≤ 2 then (if affCount a ≤ tlLeft (ts (affWho a)) (affWho a) then upd ts (affWho a) (tlUse (ts (affWho a)) (affWho a) (affCount a)) else ts)
  else upd ts (affWho a) (tlMax (ts (affWho a)) (ts (affTo a)))
theorem affWho_lt (a : Aff) : affWho a < 3 := by have := pick_bd a.who 3 (by omega); unfold affWho; omega
theorem affTo_lt (a : Aff) : affTo a < 3 := by unfold affTo; omega
theorem affTo_ne (a : Aff) : affWho a ≠ affTo a := by
  have h := affWho_lt a
  have := pick_bd a.dest 2 (by omega)
  unfold affTo; omega
theorem affCount_bd (a : Aff) : 1 ≤ affCount a ∧ affCount a ≤ 9 := by have := pick_bd a.count 9 (by omega); unfold affCount; omega
theorem affStep_inv {N B : Int} {ts : Nat → Tl} (h : TlInv N B ts) (a : Aff) : TlInv N (B + 9) (affStep ts a) := by
  have c := affCount_bd a
  unfold affStep
  split
  · split
    · exact h.move _ _ (affWho_lt a) (affTo_lt a) (affTo_ne a) _ (by omega) (by omega) (by assumption)
    · exact h.more
  · split
    · split
      · exact h.use _ (affWho_lt a) _ (by omega) (by omega) (by assumption)
      · exact h.more
    · exact h.max _ _ (affWho_lt a) (affTo_lt a)
def tlStart (N : Int) : Nat → Tl := fun v => if v = 0 then tlMint tlBlank 0 N else tlBlank
def tlKnown (N : Int) (l : List Aff) (k : Nat) : Nat → Tl := (l.take k).foldl affStep (tlStart N)
theorem tlKnown_inv (N : Int) (h0 : 0 ≤ N) (h5 : N ≤ 50) (l : List Aff) : ∀ k : Nat, TlInv N (50 + 9 * k) (tlKnown N l k)
  | 0 => by simpa [tlKnown] using (show TlInv N 50 (tlStart N) from TlInv.start N h0 h5)
  | k + 1 => by
    have ih := tlKnown_inv N h0 h5 l k
    by_cases hk : k < l.length
    · unfold tlKnown
      rw [foldl_take _ _ _ _ hk]
      have := affStep_inv ih l[k]
      rw [show (50 : Int) + 9 * ((k + 1 : Nat) : Int) = 50 + 9 * (k : Int) + 9 by omega]
      exact this
    · have e : tlKnown N l (k + 1) = tlKnown N l k := by unfold tlKnown; rw [List.take_of_length_le (by omega), List.take_of_length_le (by omega)]
      rw [e, show (50 : Int) + 9 * ((k + 1 : Nat) : Int) = 50 + 9 * (k : Int) + 9 by omega]
      exact ih.more
end Go.Proofs.Ytkeefpeffeoakaa
