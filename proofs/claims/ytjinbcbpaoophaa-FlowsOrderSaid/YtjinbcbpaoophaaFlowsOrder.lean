/- FlowsOrder: for all a, b, c: 'Flows' is a partial order on labels. -/
import Derived.Test.YtjinbcbpaoophaaLab
namespace Go.Proofs.Ytjinbcbpaoophaa.flowsOrder
open Go.ChangeShapes Go.WideShapes Go.ChangeAt Go.RowKit
set_option linter.unusedVariables false

theorem sub_refl (x : Nat) : sub x x = true := by simp [sub]
theorem sub_zero (x : Nat) : sub x 0 = true := by simp [sub]
theorem sub_all (x : Nat) (h : x < 256) : sub 255 x = true := by
  simp only [sub, beq_iff_eq]; rw [Nat.and_comm, nat_mask8]; omega
theorem sub_trans (x y z : Nat) (h : sub x y = true) (k : sub y z = true) : sub x z = true := by
  simp only [sub, beq_iff_eq] at *
  rw [← k, ← Nat.and_assoc, h]
theorem sub_anti (x y : Nat) (h : sub x y = true) (k : sub y x = true) : x = y := by
  simp only [sub, beq_iff_eq] at *
  rw [Nat.and_comm] at k; omega
theorem walk (a0 : Int) (a1 : Int) (a2 : Int) (w : World) (w0 : (Lit.int .i64 a0).wf = true) (w1 : (Lit.int .i64 a1).wf = true) (w2 : (Lit.int .i64 a2).wf = true) :
    Calls Try.prog 3 #[.int .i64 a0, .int .i64 a1, .int .i64 a2] w fun e w' => e = .returned (.bool true) ∧ Below w.heap.size w w' := by
  refine Calls.mono (R := fun e w' => e = .returned (.bool true) ∧ w = w') ?_ (fun e w' ⟨h, k⟩ => ⟨h, k ▸ Below.refl _ _⟩)
  have p0 := pick_bd a0 256 (by omega)
  have p1 := pick_bd a1 256 (by omega)
  have p2 := pick_bd a2 256 (by omega)
  have P := Lib.hid fun (a : Int) w => picked a 256 (by omega) (by omega) w
  have hl := Lib.hid (fun (a b : Int) (ha : 0 ≤ a) (hb : 0 ≤ b) (h : a.toNat = b.toNat) => (show a = b by omega))
  have s1 := sub_refl (pick a0 256).toNat
  have s2 := sub_all (pick a0 256).toNat (by omega)
  have s3 := sub_zero (pick a0 256).toNat
  have s4 := Lib.hid (sub_trans (pick a0 256).toNat (pick a1 256).toNat (pick a2 256).toNat)
  have s5 := Lib.hid (sub_anti (pick a0 256).toNat (pick a1 256).toNat)
  have key : ∀ c1 c2 c3 c4 : Bool, sub (pick a0 256).toNat (pick a1 256).toNat = c1 → sub (pick a1 256).toNat (pick a2 256).toNat = c2 → sub (pick a0 256).toNat (pick a2 256).toNat = c3 → sub (pick a1 256).toNat (pick a0 256).toNat = c4 →
    Calls Try.prog 3 #[.int .i64 a0, .int .i64 a1, .int .i64 a2] w fun e w' => e = .returned (.bool true) ∧ w = w' := by
    intro c1 c2 c3 c4 h1 h2 h3 h4
    have hz1 : c1 = true → c2 = true → c3 = true := fun e1 e2 => by subst e1 e2; rw [← h3]; exact s4.out h1 h2
    have hz2 : c1 = true → c4 = true → (pick a0 256 == pick a1 256) = true := fun e1 e2 => by subst e1 e2; rw [beq_iff_eq]; exact hl.out _ _ p0.1 p1.1 (s5.out h1 h4)
    obtain ⟨p00, p01⟩ := p0
    obtain ⟨p10, p11⟩ := p1
    obtain ⟨p20, p21⟩ := p2
    cases c1 <;> cases c2 <;> cases c3 <;> cases c4
    all_goals first
      | (exfalso; have := hz1 rfl rfl; cases this; done)
      | (have hz3 := hz2 rfl rfl; clear hz1 hz2; skip)
      | (clear hz1 hz2; skip)
    all_goals
      go_enter Try.func3, Try.ntmps3
      go_wp2_with (first | (go_at_call 17; with_reducible refine (P.out _ _).mono ?_; rintro e w' ⟨rfl, rfl⟩) | (go_at_call 18; first | (refine (lmay_true _ (by omega) (by omega) _).mono ?_; rintro e w' ⟨rfl, rfl⟩) | (refine (lmay_false _ (by omega) (by omega) (by omega) _).mono ?_; rintro e w' ⟨rfl, rfl⟩)) | (go_at_call 19; refine (kflowsI _ _ (by omega) (by omega) (by omega) (by omega) _).mono ?_; rintro e w' ⟨rfl, rfl⟩))
      go_ret
      exact ⟨rfl, rfl⟩
  exact key _ _ _ _ rfl rfl rfl rfl
theorem own : ownKnob Try.prog.godebug = none := by kernel_rfl
theorem laidOut : laidOutB Try.prog = true := by kernel_rfl
set_option maxRecDepth 100000 in
theorem lifted (os : Os) (started : os.Started) (H : Type) (enc : TypeId × Value → H) :
    ReturnsInHanded {} Try.checked os 3 .any (Rows.flowsOrderSpec.pre6 enc Try.prog Try.f3 Rows.flowsOrderRow.domain false) (Rows.flowsOrderSpec.post enc Try.prog Try.f3 false true false false) := by
  refine returnsInHanded_of_change (C := Try.checked) own started (by kernel_rfl) Try.func3
    (ChangeSpec.witness6 (enc := enc) (C := Try.checked) false ⟨#[], #[.int .i64 0, .int .i64 0, .int .i64 0], []⟩ 8 (by kernel_rfl) (by kernel_rfl) (by kernel_rfl) (by kernel_rfl)) ?_
  intro W base args ds gs before hval0 hW hcnd _
  have hval : ∀ (j : Nat) t v, Try.f3.params[j]? = some t → args[j]? = some v → Value.okWide Try.prog W .any base t v := hval0
  have hW' := hW
  obtain ⟨p, q, hA0, hV, rfl, hfz, hnd⟩ := hW
  have hA : DataW.TrodAll enc Try.prog W 0 (fun _ => true) true Try.f3.params.toList args.toList ds p := hA0
  have hlt : ∀ x ∈ p, x.block < W.heap.size := fun x hx => hW'.lt x (List.mem_append_left _ hx)
  have hAk := hA
  rw [Try.params3] at hA hval
  obtain ⟨v0, vs0, d0, ds0, p0, q0, hargs, rfl, rfl, h0, r0⟩ := trodAll_cons hA
  obtain ⟨v1, vs1, d1, ds1, p1, q1, rfl, rfl, rfl, h1, r1⟩ := trodAll_cons r0
  obtain ⟨v2, vs2, d2, ds2, p2, q2, rfl, rfl, rfl, h2, r2⟩ := trodAll_cons r1
  obtain ⟨rfl, rfl, rfl⟩ := trodAll_nil r2
  obtain rfl : args = #[v0, v1, v2] := by cases args; simp_all
  obtain ⟨rfl, rfl⟩ := trodVars_none hV
  obtain ⟨a0, rfl, rfl, rfl, w0⟩ := open_int Try.underlying3 (hval 0 3 v0 rfl rfl) h0
  obtain ⟨a1, rfl, rfl, rfl, w1⟩ := open_int Try.underlying3 (hval 1 3 v1 rfl rfl) h1
  obtain ⟨a2, rfl, rfl, rfl, w2⟩ := open_int Try.underlying3 (hval 2 3 v2 rfl rfl) h2
  refine (walk a0 a1 a2 W w0 w1 w2).mono fun e W' ⟨he, hb⟩ => ?_
  subst he
  exact ⟨_, rfl, law_post laidOut (by kernel_rfl) Try.underlying4 rfl hW' hAk hlt hb (by kernel_rfl) (fun _ => rfl) (fun _ => rfl)⟩

theorem over : Rows.flowsOrderRow.holds Try.pinned (OpenSpec.ofChange Rows.flowsOrderSpec) :=
  OpenClaim.holds_of_wide 3 Try.f3 rfl rfl rfl rfl rfl rfl rfl ⟨rfl, rfl, rfl, rfl, rfl⟩ rfl rfl rfl rfl rfl (by kernel_rfl) Try.func3 (by kernel_rfl)
    (of_decide_eq_true (by kernel_rfl)) (by unfold Func.isWrapper; first | (rw [if_pos (by decide +kernel)]; kernel_rfl) | (rw [if_neg (by decide +kernel)]; exact ⟨rfl, rfl⟩))
    (fun os started H enc _ => lifted os started H enc)
/-- The statement. -/
theorem proved : Rows.FlowsOrderSaid :=
  over
end Go.Proofs.Ytjinbcbpaoophaa.flowsOrder
