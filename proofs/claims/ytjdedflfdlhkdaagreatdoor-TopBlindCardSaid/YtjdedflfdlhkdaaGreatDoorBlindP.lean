/- TopBlind: the law's private. -/
import Derived.Test.YtjdedflfdlhkdaaGreatDoorKac
import Derived.Test.YtjdedflfdlhkdaaGreatDoorKav
import Derived.Test.YtjdedflfdlhkdaaGreatDoorBlindO
namespace Go.Proofs.YtjdedflfdlhkdaaGreatDoor
open Go.ChangeShapes Go.WideShapes Go.ChangeAt Go.RowKit
set_option linter.unusedVariables false

theorem bitX (x : Nat) (hx : x < 16) (i : Nat) (hi : i < 4) : (bits BinOp.and IntKind.i64 ((x : Int) / 2 ^ i) 1 == 1) = x.testBit i := by
  have h : ∀ x : Fin 16, ∀ i : Fin 4, (bits BinOp.and IntKind.i64 (((x.1 : Nat) : Int) / 2 ^ i.1) 1 == 1) = x.1.testBit i.1 := by decide
  exact h ⟨x, hx⟩ ⟨i, hi⟩
theorem andX (x y : Nat) (hx : x < 16) (hy : y < 16) : (bits BinOp.and IntKind.i64 (x : Int) (y : Int) == 0) = (x &&& y == 0) := by
  have h : ∀ x : Fin 16, ∀ y : Fin 16, (bits BinOp.and IntKind.i64 ((x.val : Nat) : Int) ((y.val : Nat) : Int) == 0) = (x.val &&& y.val == 0) := by decide
  exact h ⟨x, hx⟩ ⟨y, hy⟩
set_option maxRecDepth 100000 in
set_option maxHeartbeats 8000000 in
theorem cprivate {w : World} {c : Cfg} {gl cl : Nat} {vm : Value} (hcfg : CfgAt w c (.slice (some ⟨gl, 0, none⟩) 3 cl) vm) (hlt : gl < w.heap.size) (h16 : ∀ x ∈ c.labs, x < 16) (hl3 : c.labs.length = 3) (p : Stp) (hp : LawStp p) (X : Nat) (hX : X < 16) :
    Calls Tryz.prog 40 #[.agg (c.cells (.slice (some ⟨gl, 0, none⟩) 3 cl) vm), p.val, .int .i64 (X : Int)] w fun e w' => e = .returned (.bool (privB c X p)) ∧ Below w.heap.size w w' := by
  obtain ⟨kd, wh, im, ct, lf, id, lbl, ky⟩ := p
  obtain ⟨w0, w1, l0, l1, k0, k1⟩ := hp
  simp only at w0 w1 l0 l1 k0 k1
  obtain ⟨wn, rfl⟩ := Int.eq_ofNat_of_zero_le w0
  obtain ⟨ln, rfl⟩ := Int.eq_ofNat_of_zero_le l0
  have hbit := bitX X hX wn (by omega)
  have hL := hcfg.hl
  rw [hl3] at hL
  have hln : ln < c.labs.length := by omega
  have hcl : cl ≤ 9223372036854775807 ∧ 3 ≤ cl := by
    obtain ⟨_, _, _, he, h1, h2, _⟩ := hL
    simp only [Value.slice.injEq] at he
    obtain ⟨-, -, rfl⟩ := he
    exact ⟨h2, h1⟩
  have z0 := lab_cell (labs := c.labs) hL ln hln
  have hl16 := h16 _ (List.getElem_mem hln)
  have hand := andX _ X hl16 hX
  have hgd : c.labs.getD ln 0 = c.labs[ln]'hln := by simp [List.getD_eq_getElem?_getD, hln]
  have HPV : Hid (privB c X ⟨kd, (wn : Int), im, ct, lf, id, (ln : Int), ky⟩ = (!(X.testBit wn) && (decide (1 ≤ kd ∧ kd ≤ 6) || (decide (kd = 7 ∨ kd = 8) && (c.labs[ln]'hln &&& X == 0))))) := by
    show _ = _
    unfold privB
    simp only [Int.toNat_natCast]
    rw [hgd]
  generalize privB c X ⟨kd, (wn : Int), im, ct, lf, id, (ln : Int), ky⟩ = PV at *
  generalize c.labs[ln]'hln = lab at *
  have hb2 : Below w.heap.size w ((w.alloc (.cells (c.cells (.slice (some ⟨gl, 0, none⟩) 3 cl) vm) 25)).alloc (.cells (Stp.cells ⟨kd, (wn : Int), im, ct, lf, id, (ln : Int), ky⟩).toArray 48)) := ((Below.refl _ _).alloc (Nat.le_refl _) _).alloc (by simp) _
  have HB2 := Lib.hid hb2
  have z1 := cell_on hb2 z0
  have hlnz : (ln : Int) < 3 := by omega
  have hwnz : (0 : Int) ≤ (wn : Int) := by omega
  unfold Cfg.cells Stp.cells at z1 HB2
  unfold Cfg.cells Stp.val Stp.cells
  clear hcfg h16 hgd hb2 z0 hL l0 w0
  cases hb : X.testBit wn with
  | true =>
    rw [hb] at hbit HPV
    have e : PV = false := by rw [HPV.out]; rfl
    subst e
    clear HPV z1 hand
    go_enter Tryz.func40, Tryz.ntmps40
    go_wp2_with fail
    go_ret
    exact ⟨rfl, HB2.out⟩
  | false =>
    rw [hb] at hbit HPV
    have hkk : kd = 1 ∨ kd = 2 ∨ kd = 3 ∨ kd = 4 ∨ kd = 5 ∨ kd = 6 ∨ kd = 7 ∨ kd = 8 ∨ kd = 9 ∨ kd = 10 ∨ kd = 11 := by omega
    clear k0 k1
    rcases hkk with rfl | rfl | rfl | rfl | rfl | rfl | rfl | rfl | rfl | rfl | rfl
    iterate 6
      · have e : PV = true := by rw [HPV.out]; simp
        subst e
        clear HPV z1 hand
        go_enter Tryz.func40, Tryz.ntmps40
        go_wp2_with fail
        go_ret
        exact ⟨rfl, HB2.out⟩
    iterate 2
      · have e : PV = (lab &&& X == 0) := by rw [HPV.out]; simp
        subst e
        clear HPV
        go_enter Tryz.func40, Tryz.ntmps40
        go_wp2_with fail
        go_ret
        exact ⟨by first | rfl | exact ret_bool (by rw [hand]) | (simp only [hand]), HB2.out⟩
    all_goals
      have e : PV = false := by rw [HPV.out]; simp
      subst e
      clear HPV z1 hand
      go_enter Tryz.func40, Tryz.ntmps40
      go_wp2_with fail
      go_ret
      exact ⟨rfl, HB2.out⟩
end Go.Proofs.YtjdedflfdlhkdaaGreatDoor
