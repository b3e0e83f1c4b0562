/- PackBack, PackFixed: the plain laws of packing and unpacking. -/
import Derived.Test.YtgmichaconnhaaaUnp
import Derived.Test.YtgmichaconnhaaaWireD
namespace Go.Proofs.Ytgmichaconnhaaa
set_option linter.unusedVariables false

theorem byteOf_bit (bs : List Nat) (h : Bits bs) (j r : Nat) (hr : r < 8) : byteOf bs j / 2 ^ (7 - r) % 2 = bs.getD (8 * j + r) 0 := by
  have h0 := h (8 * j); have h1 := h (8 * j + 1); have h2 := h (8 * j + 2); have h3 := h (8 * j + 3)
  have h4 := h (8 * j + 4); have h5 := h (8 * j + 5); have h6 := h (8 * j + 6); have h7 := h (8 * j + 7)
  unfold byteOf
  have hr' : r = 0 ∨ r = 1 ∨ r = 2 ∨ r = 3 ∨ r = 4 ∨ r = 5 ∨ r = 6 ∨ r = 7 := by omega
  rcases hr' with rfl | rfl | rfl | rfl | rfl | rfl | rfl | rfl <;> (simp only [Nat.add_zero, Nat.reduceSub, Nat.reducePow, Nat.sub_zero, Nat.div_one, Nat.sub_self, Nat.pow_zero]; omega)
theorem recBits_bits (fs : List (Int × Int)) : Bits (recBits fs) := by
  intro i
  rw [List.getD_eq_getElem?_getD]
  by_cases h : i < (recBits fs).length
  · rw [List.getElem?_eq_getElem h]
    have hm : (recBits fs)[i] ∈ recBits fs := List.getElem_mem h
    simp only [recBits, List.mem_flatMap] at hm
    obtain ⟨p, _, hp⟩ := hm
    exact fieldBits_bits _ _ _ hp
  · rw [List.getElem?_eq_none (by omega)]; simp
theorem bitAt_recB (fs : List (Int × Int)) (i : Nat) (h : i < 8 * recSize fs) : bitAt (recB fs) i = (recBits fs).getD i 0 := by
  unfold bitAt
  have hq : i / 8 < recSize fs := by omega
  have e : (recB fs).getD (i / 8) 0 = byteOf (recBits fs) (i / 8) := by
    rw [List.getD_eq_getElem?_getD, List.getElem?_eq_getElem (by rw [recB_length]; exact hq)]
    simp [recB]
  rw [e, byteOf_bit _ (recBits_bits fs) _ _ (Nat.mod_lt _ (by decide))]
  rw [show 8 * (i / 8) + i % 8 = i by omega]
theorem valOf_up (w v : Nat) (hv : v < 2 ^ w) : ∀ m, m ≤ w → valOf ((List.range m).map fun i => v / 2 ^ (w - 1 - i) % 2) = v / 2 ^ (w - m)
  | 0, _ => by simp [valOf, Nat.div_eq_of_lt hv]
  | m + 1, h => by
    have ih := valOf_up w v hv m (by omega)
    rw [List.range_succ, List.map_append, List.map_singleton, valOf_snoc, ih]
    rw [show w - m = (w - (m + 1)) + 1 by omega, show w - 1 - m = w - (m + 1) by omega, Nat.pow_succ, ← Nat.div_div_eq_div_mul]
    omega
theorem valOf_fieldBits (w v : Nat) (hv : v < 2 ^ w) : valOf (fieldBits w v) = v := by
  unfold fieldBits
  rw [valOf_up w v hv w (Nat.le_refl _)]; simp
theorem sumW_fields (fs : List (Int × Int)) : sumW (fs.map (·.1)) = (recBits fs).length := by
  rw [recBits_length, sumW, List.map_map]; rfl
theorem recBits_len_le (fs : List (Int × Int)) : (recBits fs).length ≤ 8 * recSize fs := by unfold recSize; omega
theorem unpack_back : ∀ (fs pre : List (Int × Int)), (∀ p ∈ fs, 0 ≤ p.2 ∧ p.2 < 2 ^ p.1.toNat) → unpackV (recB (pre ++ fs)) (recBits pre).length (fs.map (·.1)) = fs.map (·.2)
  | [], pre, _ => rfl
  | p :: fs, pre, h => by
    have hp := h p (by simp)
    have ih := unpack_back fs (pre ++ [p]) fun q hq => h q (by simp [hq])
    have e1 : pre ++ [p] ++ fs = pre ++ p :: fs := by simp
    rw [e1] at ih
    have e2 : (recBits (pre ++ [p])).length = (recBits pre).length + p.1.toNat := by simp [recBits, fieldBits_length]
    rw [e2] at ih
    simp only [List.map_cons, unpackV]
    rw [ih]
    congr 1
    have hall : recBits (pre ++ p :: fs) = recBits pre ++ (fieldBits p.1.toNat p.2.toNat ++ recBits fs) := by simp [recBits]
    have hb : bitsAt (recB (pre ++ p :: fs)) (recBits pre).length p.1.toNat = fieldBits p.1.toNat p.2.toNat := by
      apply List.ext_getElem
      · simp [bitsAt, fieldBits_length]
      · intro i h1 h2
        rw [fieldBits_length] at h2
        simp only [bitsAt, List.getElem_map, List.getElem_range]
        have hlen := recBits_len_le (pre ++ p :: fs)
        rw [hall] at hlen
        simp only [List.length_append, fieldBits_length] at hlen
        rw [bitAt_recB _ _ (by omega), hall, List.getD_eq_getElem?_getD, List.getElem?_append_right (by omega), Nat.add_sub_cancel_left, List.getElem?_append_left (by rw [fieldBits_length]; exact h2), List.getElem?_eq_getElem (by rw [fieldBits_length]; exact h2)]
        rfl
    have hv : p.2.toNat < 2 ^ p.1.toNat := by
      have h2 : (p.2.toNat : Int) < ((2 ^ p.1.toNat : Nat) : Int) := by
        rw [Int.toNat_of_nonneg hp.1]; simpa using hp.2
      omega
    rw [hb, valOf_fieldBits _ _ hv]
    omega
theorem rest_back (fs : List (Int × Int)) : restZero (recB fs) (sumW (fs.map (·.1))) := by
  intro i h1 h2
  rw [sumW_fields] at h1
  rw [recB_length] at h2
  rw [bitAt_recB _ _ h2, getD_past _ _ h1]
/-- What comes back packs to what it came from. -/
theorem fieldBits_valOf (l : List Nat) (h : ∀ b ∈ l, b ≤ 1) : fieldBits l.length (valOf l) = l := by
  have key : ∀ (n : Nat) (l : List Nat), l.length = n → (∀ b ∈ l, b ≤ 1) → fieldBits l.length (valOf l) = l := by
    intro n
    induction n with
    | zero => intro l hl _; have := List.eq_nil_of_length_eq_zero hl; subst this; rfl
    | succ n ih =>
      intro l hl hb
      obtain ⟨l', b, rfl⟩ : ∃ l' b, l = l' ++ [b] := ⟨l.dropLast, l.getLast (by intro e; subst e; simp at hl), (List.dropLast_concat_getLast _).symm⟩
      have hl' : l'.length = n := by simpa using hl
      have ih' := ih l' hl' fun x hx => hb x (by simp [hx])
      have hb1 := hb b (by simp)
      rw [valOf_snoc]
      have e : fieldBits (l' ++ [b]).length (2 * valOf l' + b) = fieldBits l'.length (valOf l') ++ [b] := by
        unfold fieldBits
        rw [List.length_append, List.length_singleton, List.range_succ, List.map_append, List.map_singleton]
        congr 1
        · apply List.map_congr_left
          intro i hi
          have hi' := List.mem_range.1 hi
          rw [show l'.length + 1 - 1 - i = (l'.length - 1 - i) + 1 by omega, Nat.pow_succ, Nat.mul_comm (2 ^ _) 2, ← Nat.div_div_eq_div_mul, show (2 * valOf l' + b) / 2 = valOf l' by omega]
        · congr 1
          rw [show l'.length + 1 - 1 - l'.length = 0 by omega]; simp; omega
      rw [e, ih']
  exact key _ l rfl h
def zipF (ws : List Int) (vs : List Int) : List (Int × Int) := ws.zip vs
theorem bitsAt_length (bs : List Nat) (p m : Nat) : (bitsAt bs p m).length = m := by simp [bitsAt]
theorem bitsAt_bits (bs : List Nat) (p m : Nat) : ∀ b ∈ bitsAt bs p m, b ≤ 1 := by
  intro b hb; simp only [bitsAt, List.mem_map] at hb; obtain ⟨i, _, rfl⟩ := hb; exact bitAt_le _ _
theorem bitsAt_add (bs : List Nat) (p m k : Nat) : bitsAt bs p (m + k) = bitsAt bs p m ++ bitsAt bs (p + m) k := by
  unfold bitsAt
  rw [List.range_add, List.map_append, List.map_map]
  congr 1
  apply List.map_congr_left
  intro i _
  simp [Nat.add_assoc]
theorem recBits_unpack (bs : List Nat) : ∀ (ws : List Int) (p : Nat), (∀ x ∈ ws, 1 ≤ x) → recBits (ws.zip (unpackV bs p ws)) = bitsAt bs p (sumW ws)
  | [], p, _ => by simp [recBits, sumW, bitsAt]
  | w :: ws, p, h => by
    have ih := recBits_unpack bs ws (p + w.toNat) fun x hx => h x (by simp [hx])
    have e : sumW (w :: ws) = w.toNat + sumW ws := by simp [sumW]
    rw [e, bitsAt_add, unpackV, List.zip_cons_cons]
    have hc : recBits ((w, (valOf (bitsAt bs p w.toNat) : Int)) :: ws.zip (unpackV bs (p + w.toNat) ws)) = fieldBits w.toNat (valOf (bitsAt bs p w.toNat)) ++ recBits (ws.zip (unpackV bs (p + w.toNat) ws)) := by simp [recBits]
    rw [hc, ih]
    congr 1
    have := fieldBits_valOf (bitsAt bs p w.toNat) (bitsAt_bits _ _ _)
    rw [bitsAt_length] at this
    exact this
theorem byte_of_bits (B : Nat) (h : B < 256) : B / 128 % 2 * 128 + B / 64 % 2 * 64 + B / 32 % 2 * 32 + B / 16 % 2 * 16 + B / 8 % 2 * 8 + B / 4 % 2 * 4 + B / 2 % 2 * 2 + B % 2 = B := by omega
theorem bitsAt_getD (bs : List Nat) (m i : Nat) (hz : restZero bs m) (hi : i < 8 * bs.length) : (bitsAt bs 0 m).getD i 0 = bitAt bs i := by
  rw [List.getD_eq_getElem?_getD]
  by_cases h : i < m
  · simp [bitsAt, h]
  · rw [List.getElem?_eq_none (by rw [bitsAt_length]; omega), hz i (by omega) hi]; rfl
theorem recB_unpack (bs : List Nat) (ws : List Int) (hw : ∀ x ∈ ws, 1 ≤ x ∧ x ≤ 60) (hb : ∀ b ∈ bs, b < 256) (hn : (bs.length : Int) = (wsum ws + 7) / 8) (hz : restZero bs (sumW ws)) :
    recB (ws.zip (unpackV bs 0 ws)) = bs := by
  have e := recBits_unpack bs ws 0 fun x hx => (hw x hx).1
  have hs := wsum_sumW ws hw
  have hsz : recSize (ws.zip (unpackV bs 0 ws)) = bs.length := by unfold recSize; rw [e, bitsAt_length]; omega
  unfold recB
  rw [hsz, e]
  apply List.ext_getElem
  · simp
  · intro j h1 h2
    have hj : j < bs.length := h2
    simp only [List.getElem_map, List.getElem_range]
    unfold byteOf
    have g : ∀ k, k < 8 → (bitsAt bs 0 (sumW ws)).getD (8 * j + k) 0 = bs[j] / 2 ^ (7 - k) % 2 := fun k hk => by
      rw [bitsAt_getD bs _ _ hz (by omega)]
      unfold bitAt
      rw [show (8 * j + k) / 8 = j by omega, show (8 * j + k) % 8 = k by omega, List.getD_eq_getElem?_getD, List.getElem?_eq_getElem hj]; rfl
    have g0 := g 0 (by omega)
    rw [Nat.add_zero] at g0
    rw [g0, g 1 (by omega), g 2 (by omega), g 3 (by omega), g 4 (by omega), g 5 (by omega), g 6 (by omega), g 7 (by omega)]
    have := byte_of_bits bs[j] (hb _ (List.getElem_mem hj))
    simpa using this
theorem unpack_ok (bs : List Nat) (ws : List Int) (hl : ws.length ≤ 40) (hw : ∀ x ∈ ws, 1 ≤ x ∧ x ≤ 60) : FieldsOk (ws.zip (unpackV bs 0 ws)) := by
  refine ⟨by rw [List.length_zip, unpackV_length]; omega, ?_⟩
  have key : ∀ (ws : List Int) (p : Nat), (∀ x ∈ ws, 1 ≤ x ∧ x ≤ 60) → ∀ q ∈ ws.zip (unpackV bs p ws), 1 ≤ q.1 ∧ q.1 ≤ 60 ∧ 0 ≤ q.2 ∧ q.2 < 2 ^ q.1.toNat := by
    intro ws
    induction ws with
    | nil => intro p _ q hq; simp at hq
    | cons w ws ih =>
      intro p h q hq
      rw [unpackV, List.zip_cons_cons] at hq
      rcases List.mem_cons.1 hq with rfl | hq
      · have h1 := h w (by simp)
        have h2 := valOf_lt bs p w.toNat
        refine ⟨h1.1, h1.2, by simp, ?_⟩
        have : ((valOf (bitsAt bs p w.toNat) : Nat) : Int) < ((2 ^ w.toNat : Nat) : Int) := Int.ofNat_lt.2 h2
        simpa using this
      · exact ih _ (fun x hx => h x (by simp [hx])) q hq
  exact key ws 0 hw
end Go.Proofs.Ytgmichaconnhaaa
