/- JoinSpreads: for all a, b, c: Join and Meet of labels spread over each other. Conditions: none. -/
import Derived.Test.YtjinbcbpaoophaaLab
namespace Go.Proofs.Ytjinbcbpaoophaa.joinSpreads
open Go.ChangeShapes Go.WideShapes Go.ChangeAt Go.RowKit
set_option linter.unusedVariables false

theorem spread1 (x y z : Int) : (land x (lor y z) == lor (land x y) (land x z)) = true := by
  simp [land, lor, Nat.and_or_distrib_left]
theorem spread2 (x y z : Int) : (lor x (land y z) == land (lor x y) (lor x z)) = true := by
  simp [land, lor, Nat.or_and_distrib_left]
theorem inner (x y z : Int) (x0 : 0 ≤ x) (x1 : x < 256) (y0 : 0 ≤ y) (y1 : y < 256) (z0 : 0 ≤ z) (z1 : z < 256) (a0 a1 a2 : Int) (h0 : pick a0 256 = x) (h1 : pick a1 256 = y) (h2 : pick a2 256 = z) (w : World) :
    Calls Try.prog 4 #[.int .i64 a0, .int .i64 a1, .int .i64 a2] w fun e w' => e = .returned (.bool true) ∧ w = w' := by
  have P := Lib.hid fun (a : Int) w => picked a 256 (by omega) (by omega) w
  obtain ⟨b1, b2⟩ := lor_bd y z (by omega) (by omega)
  obtain ⟨b3, b4⟩ := land_bd x (lor y z) (by omega) (by omega)
  obtain ⟨b5, b6⟩ := land_bd x y (by omega) (by omega)
  obtain ⟨b7, b8⟩ := land_bd x z (by omega) (by omega)
  obtain ⟨b9, b10⟩ := land_bd y z (by omega) (by omega)
  obtain ⟨b11, b12⟩ := lor_bd x y (by omega) (by omega)
  obtain ⟨b13, b14⟩ := lor_bd x z (by omega) (by omega)
  have s1 := spread1 x y z
  have s2 := spread2 x y z
  go_enter Try.func4, Try.ntmps4
  go_wp2_with (first | (go_at_call 17; with_reducible refine (P.out _ _).mono ?_; rintro e w' ⟨rfl, rfl⟩) | (go_at_call 18; refine (lmay_true _ (by omega) (by omega) _).mono ?_; rintro e w' ⟨rfl, rfl⟩) | (go_at_call 21; refine (cjoin _ _ (by omega) (by omega) (by omega) (by omega) _).mono ?_; rintro e w' ⟨rfl, rfl⟩) | (go_at_call 20; refine (cmeet _ _ (by omega) (by omega) (by omega) (by omega) _).mono ?_; rintro e w' ⟨rfl, rfl⟩) | (go_at_call 19; refine (cflows _ _ (by omega) (by omega) (by omega) (by omega) _).mono ?_; rintro e w' ⟨rfl, rfl⟩))
  go_ret
  exact ⟨rfl, rfl⟩
theorem walk (a0 : Int) (a1 : Int) (a2 : Int) (w : World) (w0 : (Lit.int .i64 a0).wf = true) (w1 : (Lit.int .i64 a1).wf = true) (w2 : (Lit.int .i64 a2).wf = true) :
    Calls Try.prog 4 #[.int .i64 a0, .int .i64 a1, .int .i64 a2] w fun e w' => e = .returned (.bool true) ∧ Below w.heap.size w w' := by
  have p0 := pick_bd a0 256 (by omega)
  have p1 := pick_bd a1 256 (by omega)
  have p2 := pick_bd a2 256 (by omega)
  exact (inner _ _ _ p0.1 p0.2 p1.1 p1.2 p2.1 p2.2 a0 a1 a2 rfl rfl rfl w).mono fun e w' ⟨h, k⟩ => ⟨h, k ▸ Below.refl _ _⟩
theorem own : ownKnob Try.prog.godebug = none := by kernel_rfl
theorem laidOut : laidOutB Try.prog = true := by kernel_rfl
set_option maxRecDepth 100000 in
theorem lifted (os : Os) (started : os.Started) (H : Type) (enc : TypeId × Value → H) :
    ReturnsInHanded {} Try.checked os 4 .any (Rows.joinSpreadsSpec.pre6 enc Try.prog Try.f4 Rows.joinSpreadsRow.domain false) (Rows.joinSpreadsSpec.post enc Try.prog Try.f4 false true false false) := by
  refine returnsInHanded_of_change (C := Try.checked) own started (by kernel_rfl) Try.func4
    (ChangeSpec.witness6 (enc := enc) (C := Try.checked) false ⟨#[], #[.int .i64 0, .int .i64 0, .int .i64 0], []⟩ 8 (by kernel_rfl) (by kernel_rfl) (by kernel_rfl) (by kernel_rfl)) ?_
  intro W base args ds gs before hval0 hW hcnd _
  have hval : ∀ (j : Nat) t v, Try.f4.params[j]? = some t → args[j]? = some v → Value.okWide Try.prog W .any base t v := hval0
  have hW' := hW
  obtain ⟨p, q, hA0, hV, rfl, hfz, hnd⟩ := hW
  have hA : DataW.TrodAll enc Try.prog W 0 (fun _ => true) true Try.f4.params.toList args.toList ds p := hA0
  have hlt : ∀ x ∈ p, x.block < W.heap.size := fun x hx => hW'.lt x (List.mem_append_left _ hx)
  have hAk := hA
  rw [Try.params4] at hA hval
  obtain ⟨v0, vs0, d0, ds0, p0, q0, hargs, rfl, rfl, h0, r0⟩ := trodAll_cons hA
  obtain ⟨v1, vs1, d1, ds1, p1, q1, rfl, rfl, rfl, h1, r1⟩ := trodAll_cons r0
  obtain ⟨v2, vs2, d2, ds2, p2, q2, rfl, rfl, rfl, h2, r2⟩ := trodAll_cons r1
  obtain ⟨rfl, rfl, rfl⟩ := trodAll_nil r2
  obtain rfl : args = #[v0, v1, v2] := by cases args; simp_all
  obtain ⟨rfl, rfl⟩ := trodVars_none hV
  obtain ⟨a0, rfl, rfl, rfl, w0⟩ := open_int Try.underlying3 (hval 0 3 v0 rfl rfl) h0
  obtain ⟨a1, rfl, rfl, rfl, w1⟩ := open_int Try.underlying3 (hval 1 3 v1 rfl rfl) h1
  obtain ⟨a2, rfl, rfl, rfl, w2⟩ := open_int Try.underlying3 (hval 2 3 v2 rfl rfl) h2
  refine (walk a0 a1 a2 W w0 w1 w2).mono fun e W' ⟨he, hb⟩ => ?_
  subst he
  exact ⟨_, rfl, law_post laidOut (by kernel_rfl) Try.underlying4 rfl hW' hAk hlt hb (by kernel_rfl) (fun _ => rfl) (fun _ => rfl)⟩

theorem over : Rows.joinSpreadsRow.holds Try.pinned (OpenSpec.ofChange Rows.joinSpreadsSpec) :=
  OpenClaim.holds_of_wide 4 Try.f4 rfl rfl rfl rfl rfl rfl rfl ⟨rfl, rfl, rfl, rfl, rfl⟩ rfl rfl rfl rfl rfl (by kernel_rfl) Try.func4 (by kernel_rfl)
    (of_decide_eq_true (by kernel_rfl)) (by unfold Func.isWrapper; first | (rw [if_pos (by decide +kernel)]; kernel_rfl) | (rw [if_neg (by decide +kernel)]; exact ⟨rfl, rfl⟩))
    (fun os started H enc _ => lifted os started H enc)
/-- The statement. -/
theorem proved : Rows.JoinSpreadsSaid :=
  over
end Go.Proofs.Ytjinbcbpaoophaa.joinSpreads
