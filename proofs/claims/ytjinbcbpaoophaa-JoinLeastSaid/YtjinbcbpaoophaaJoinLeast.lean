/- JoinLeast: for all a, b, c: Join of labels is the least upper bound and Meet the greatest lower bound. Conditions: none. -/
import Derived.Test.YtjinbcbpaoophaaLab
namespace Go.Proofs.Ytjinbcbpaoophaa.joinLeast
open Go.ChangeShapes Go.WideShapes Go.ChangeAt Go.RowKit
set_option linter.unusedVariables false

theorem sub_land (x y z : Int) : lsub (land x y) z = (lsub x z && lsub y z) := by
  simp only [lsub, sub, land, Int.toNat_natCast]
  rw [Bool.eq_iff_iff]
  simp only [Bool.and_eq_true, beq_iff_eq]
  constructor
  · intro h
    constructor
    · rw [← h]; apply Nat.eq_of_testBit_eq; intro i; simp only [Nat.testBit_and]; cases x.toNat.testBit i <;> cases y.toNat.testBit i <;> cases z.toNat.testBit i <;> rfl
    · rw [← h]; apply Nat.eq_of_testBit_eq; intro i; simp only [Nat.testBit_and]; cases x.toNat.testBit i <;> cases y.toNat.testBit i <;> cases z.toNat.testBit i <;> rfl
  · intro ⟨h, k⟩
    rw [Nat.and_assoc, k, h]
theorem sub_lor (x y z : Int) : lsub z (lor x y) = (lsub z x && lsub z y) := by
  simp only [lsub, sub, lor, Int.toNat_natCast]
  rw [Bool.eq_iff_iff]
  simp only [Bool.and_eq_true, beq_iff_eq]
  constructor
  · intro h
    have hb : ∀ i, ((z.toNat.testBit i && (x.toNat.testBit i || y.toNat.testBit i)) = (x.toNat.testBit i || y.toNat.testBit i)) := fun i => by
      have := congrArg (fun n => Nat.testBit n i) h
      simpa only [Nat.testBit_and, Nat.testBit_or] using this
    constructor
    · apply Nat.eq_of_testBit_eq; intro i; have := hb i; simp only [Nat.testBit_and]; revert this; cases x.toNat.testBit i <;> cases y.toNat.testBit i <;> cases z.toNat.testBit i <;> simp
    · apply Nat.eq_of_testBit_eq; intro i; have := hb i; simp only [Nat.testBit_and]; revert this; cases x.toNat.testBit i <;> cases y.toNat.testBit i <;> cases z.toNat.testBit i <;> simp
  · intro ⟨h, k⟩
    rw [Nat.and_or_distrib_left, h, k]
theorem sub_self_land (x y : Int) : lsub x (land x y) = true := by
  simp only [lsub, sub, land, Int.toNat_natCast, beq_iff_eq, ← Nat.and_assoc, Nat.and_self]
theorem sub_self_land' (x y : Int) : lsub y (land x y) = true := by
  simp only [lsub, sub, land, Int.toNat_natCast, beq_iff_eq]
  rw [Nat.and_comm x.toNat, ← Nat.and_assoc, Nat.and_self]
theorem sub_self_lor (x y : Int) : lsub (lor x y) x = true := by
  simp only [lsub, sub, lor, Int.toNat_natCast, beq_iff_eq]
  apply Nat.eq_of_testBit_eq; intro i; simp only [Nat.testBit_and, Nat.testBit_or]; cases x.toNat.testBit i <;> cases y.toNat.testBit i <;> rfl
theorem sub_self_lor' (x y : Int) : lsub (lor x y) y = true := by
  simp only [lsub, sub, lor, Int.toNat_natCast, beq_iff_eq]
  apply Nat.eq_of_testBit_eq; intro i; simp only [Nat.testBit_and, Nat.testBit_or]; cases x.toNat.testBit i <;> cases y.toNat.testBit i <;> rfl
set_option maxHeartbeats 2000000 in
theorem inner (x y z : Int) (x0 : 0 ≤ x) (x1 : x < 256) (y0 : 0 ≤ y) (y1 : y < 256) (z0 : 0 ≤ z) (z1 : z < 256) (a0 a1 a2 : Int) (h0 : pick a0 256 = x) (h1 : pick a1 256 = y) (h2 : pick a2 256 = z) (w : World)
    (c1 c2 c3 c4 : Bool) (e1 : lsub x z = c1) (e2 : lsub y z = c2) (e3 : lsub z x = c3) (e4 : lsub z y = c4) :
    Calls Try.prog 5 #[.int .i64 a0, .int .i64 a1, .int .i64 a2] w fun e w' => e = .returned (.bool true) ∧ w = w' := by
  have P := Lib.hid fun (a : Int) w => picked a 256 (by omega) (by omega) w
  obtain ⟨b5, b6⟩ := land_bd x y (by omega) (by omega)
  obtain ⟨b11, b12⟩ := lor_bd x y (by omega) (by omega)
  have s1 := sub_self_land x y
  have s2 := sub_self_land' x y
  have s3 := sub_self_lor x y
  have s4 := sub_self_lor' x y
  have s5 := sub_land x y z
  have s6 := sub_lor x y z
  rw [e1, e2] at s5
  rw [e3, e4] at s6
  cases c1 <;> cases c2 <;> cases c3 <;> cases c4
  all_goals
    simp at s5 s6
    go_enter Try.func5, Try.ntmps5
    go_wp2_with (first | (go_at_call 17; with_reducible refine (P.out _ _).mono ?_; rintro e w' ⟨rfl, rfl⟩) | (go_at_call 18; refine (lmay_true _ (by omega) (by omega) _).mono ?_; rintro e w' ⟨rfl, rfl⟩) | (go_at_call 21; refine (cjoin _ _ (by omega) (by omega) (by omega) (by omega) _).mono ?_; rintro e w' ⟨rfl, rfl⟩) | (go_at_call 20; refine (cmeet _ _ (by omega) (by omega) (by omega) (by omega) _).mono ?_; rintro e w' ⟨rfl, rfl⟩) | (go_at_call 19; refine (cflows _ _ (by omega) (by omega) (by omega) (by omega) _).mono ?_; rintro e w' ⟨rfl, rfl⟩))
    go_ret
    exact ⟨rfl, rfl⟩
theorem walk (a0 : Int) (a1 : Int) (a2 : Int) (w : World) (w0 : (Lit.int .i64 a0).wf = true) (w1 : (Lit.int .i64 a1).wf = true) (w2 : (Lit.int .i64 a2).wf = true) :
    Calls Try.prog 5 #[.int .i64 a0, .int .i64 a1, .int .i64 a2] w fun e w' => e = .returned (.bool true) ∧ Below w.heap.size w w' := by
  have p0 := pick_bd a0 256 (by omega)
  have p1 := pick_bd a1 256 (by omega)
  have p2 := pick_bd a2 256 (by omega)
  exact (inner _ _ _ p0.1 p0.2 p1.1 p1.2 p2.1 p2.2 a0 a1 a2 rfl rfl rfl w _ _ _ _ rfl rfl rfl rfl).mono fun e w' ⟨h, k⟩ => ⟨h, k ▸ Below.refl _ _⟩
theorem own : ownKnob Try.prog.godebug = none := by kernel_rfl
theorem laidOut : laidOutB Try.prog = true := by kernel_rfl
set_option maxRecDepth 100000 in
theorem lifted (os : Os) (started : os.Started) (H : Type) (enc : TypeId × Value → H) :
    ReturnsInHanded {} Try.checked os 5 .any (Rows.joinLeastSpec.pre6 enc Try.prog Try.f5 Rows.joinLeastRow.domain false) (Rows.joinLeastSpec.post enc Try.prog Try.f5 false true false false) := by
  refine returnsInHanded_of_change (C := Try.checked) own started (by kernel_rfl) Try.func5
    (ChangeSpec.witness6 (enc := enc) (C := Try.checked) false ⟨#[], #[.int .i64 0, .int .i64 0, .int .i64 0], []⟩ 8 (by kernel_rfl) (by kernel_rfl) (by kernel_rfl) (by kernel_rfl)) ?_
  intro W base args ds gs before hval0 hW hcnd _
  have hval : ∀ (j : Nat) t v, Try.f5.params[j]? = some t → args[j]? = some v → Value.okWide Try.prog W .any base t v := hval0
  have hW' := hW
  obtain ⟨p, q, hA0, hV, rfl, hfz, hnd⟩ := hW
  have hA : DataW.TrodAll enc Try.prog W 0 (fun _ => true) true Try.f5.params.toList args.toList ds p := hA0
  have hlt : ∀ x ∈ p, x.block < W.heap.size := fun x hx => hW'.lt x (List.mem_append_left _ hx)
  have hAk := hA
  rw [Try.params5] at hA hval
  obtain ⟨v0, vs0, d0, ds0, p0, q0, hargs, rfl, rfl, h0, r0⟩ := trodAll_cons hA
  obtain ⟨v1, vs1, d1, ds1, p1, q1, rfl, rfl, rfl, h1, r1⟩ := trodAll_cons r0
  obtain ⟨v2, vs2, d2, ds2, p2, q2, rfl, rfl, rfl, h2, r2⟩ := trodAll_cons r1
  obtain ⟨rfl, rfl, rfl⟩ := trodAll_nil r2
  obtain rfl : args = #[v0, v1, v2] := by cases args; simp_all
  obtain ⟨rfl, rfl⟩ := trodVars_none hV
  obtain ⟨a0, rfl, rfl, rfl, w0⟩ := open_int Try.underlying3 (hval 0 3 v0 rfl rfl) h0
  obtain ⟨a1, rfl, rfl, rfl, w1⟩ := open_int Try.underlying3 (hval 1 3 v1 rfl rfl) h1
  obtain ⟨a2, rfl, rfl, rfl, w2⟩ := open_int Try.underlying3 (hval 2 3 v2 rfl rfl) h2
  refine (walk a0 a1 a2 W w0 w1 w2).mono fun e W' ⟨he, hb⟩ => ?_
  subst he
  exact ⟨_, rfl, law_post laidOut (by kernel_rfl) Try.underlying4 rfl hW' hAk hlt hb (by kernel_rfl) (fun _ => rfl) (fun _ => rfl)⟩

theorem over : Rows.joinLeastRow.holds Try.pinned (OpenSpec.ofChange Rows.joinLeastSpec) :=
  OpenClaim.holds_of_wide 5 Try.f5 rfl rfl rfl rfl rfl rfl rfl ⟨rfl, rfl, rfl, rfl, rfl⟩ rfl rfl rfl rfl rfl (by kernel_rfl) Try.func5 (by kernel_rfl)
    (of_decide_eq_true (by kernel_rfl)) (by unfold Func.isWrapper; first | (rw [if_pos (by decide +kernel)]; kernel_rfl) | (rw [if_neg (by decide +kernel)]; exact ⟨rfl, rfl⟩))
    (fun os started H enc _ => lifted os started H enc)
/-- The statement. -/
theorem proved : Rows.JoinLeastSaid :=
  over
end Go.Proofs.Ytjinbcbpaoophaa.joinLeast
