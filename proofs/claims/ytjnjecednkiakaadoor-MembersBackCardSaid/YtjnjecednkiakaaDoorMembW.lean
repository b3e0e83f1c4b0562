/- Labels: Members, Of. -/
import Derived.Test.YtjnjecednkiakaaDoorMembL
import Derived.Test.YtjnjecednkiakaaDoorMem
namespace Go.Proofs.YtjnjecednkiakaaDoor
open Go.ChangeShapes Go.WideShapes Go.ChangeAt Go.RowKit
set_option linter.unusedVariables false
set_option linter.unusedSimpArgs false

/-- The table lies in its variable. -/
def TzVar (w : World) : Prop := ∀ j, j < 64 → w.cell? ⟨2, j, none⟩ = some (.int .u8 ((Lib.deBruijn64tab.getD j 0 : Nat) : Int))
theorem TzVar.pos {w : World} (h : TzVar w) : 2 < w.heap.size := World.block_lt_of_cell? w _ (h 0 (by decide))
theorem TzVar.on {w w' : World} (h : TzVar w) (hb : Below w.heap.size w w') : TzVar w' := fun j hj => cell_on hb (h j hj)
theorem ctz_core (x k idx : Nat) (w : World) (hx0 : ((x : Int) == 0) = false)
    (key : IntKind.u64.wrap (bits BinOp.and IntKind.u64 (x : Int) (IntKind.u64.wrap (-(x : Int))) * 285870213051353865) / 288230376151711744 = (idx : Int))
    (hi : idx < 64) (hk : k < 64) (hcell : w.cell? ⟨2, idx, none⟩ = some (.int .u8 (k : Int))) :
    Calls Tryd.prog 22 #[.int .u64 (x : Int)] w fun e w' => e = .returned (.int .i64 (k : Int)) ∧ w = w' := by
  go_enter Tryd.func22, Tryd.ntmps22
  go_wp2_with (simp only [key])
  go_ret
  exact ⟨rfl, rfl⟩
theorem tz_keyN (x : Nat) (h0 : x ≠ 0) (h1 : x < 256) : IntKind.u64.wrap (bits BinOp.and IntKind.u64 (x : Int) (IntKind.u64.wrap (-(x : Int))) * 285870213051353865) / 288230376151711744 = ((tzIdx x : Nat) : Int) := tz_key ⟨x, h1⟩ h0
theorem tz_idxN (x : Nat) (h0 : x ≠ 0) (h1 : x < 256) : tzIdx x < 64 ∧ Lib.deBruijn64tab.getD (tzIdx x) 0 = lowI x := tz_idx ⟨x, h1⟩ h0
theorem lowI_lt (x : Nat) (h0 : x ≠ 0) (h1 : x < 256) : lowI x < 8 := (memL_step ⟨x, h1⟩ h0).2.2
theorem ctz64 (x : Nat) (h0 : x ≠ 0) (h1 : x < 256) (w : World) (hT : TzVar w) :
    Calls Tryd.prog 22 #[.int .u64 (x : Int)] w fun e w' => e = .returned (.int .i64 ((lowI x : Nat) : Int)) ∧ w = w' := by
  have hi := (tz_idxN x h0 h1).1
  have hc := hT (tzIdx x) hi
  rw [(tz_idxN x h0 h1).2] at hc
  exact ctz_core x (lowI x) (tzIdx x) w (by simp; omega) (tz_keyN x h0 h1) hi (by have := lowI_lt x h0 h1; omega) hc
theorem ctz (x : Nat) (h0 : x ≠ 0) (h1 : x < 256) (w : World) (hT : TzVar w) :
    Calls Tryd.prog 13 #[.int .u64 (x : Int)] w fun e w' => e = .returned (.int .i64 ((lowI x : Nat) : Int)) ∧ w = w' := by
  have C := Lib.hid (ctz64 x h0 h1 w hT)
  go_enter Tryd.func13, Tryd.ntmps13
  go_wp2_with fail
  refine C.out.mono ?_
  rintro e w' ⟨rfl, rfl⟩
  go_wp2_with fail
  go_ret
  exact ⟨rfl, rfl⟩
theorem may_all : ∀ x : Fin 256, (bits BinOp.andNot IntKind.u64 ((x.val : Nat) : Int) 255 == 0) = true := by decide +kernel
theorem lmayN (x : Nat) (h : x < 256) (w : World) :
    Calls Tryd.prog 9 #[.int .i64 (x : Int)] w fun e w' => e = .returned (.bool true) ∧ w = w' := by
  have H := may_all ⟨x, h⟩
  simp only at H
  go_enter Tryd.func9, Tryd.ntmps9
  go_wp2
  all_goals go_ret
  all_goals exact ⟨rfl, rfl⟩
def natI (l : List Nat) : List Int := l.map fun x => ((x : Nat) : Int)
theorem natI_len (l : List Nat) : (natI l).length = l.length := by simp [natI]
theorem natI_snoc (l : List Nat) (x : Nat) : ints (natI (l ++ [x])) = ints (natI l) ++ [.int .i64 ((x : Nat) : Int)] := by simp [natI, ints]
set_option maxRecDepth 100000 in
set_option maxHeartbeats 4000000 in
theorem cMembers (x : Nat) (hx : x < 256) (w : World) (hT : TzVar w) :
    Calls Tryd.prog 7 #[.int .i64 (x : Int)] w fun e w' => ∃ v, e = .returned (.tuple #[v, .int .i64 0]) ∧ w'.ownsRow w.heap.size 3 1 v (memL x).length (ints (natI (memL x))) ∧ Below w.heap.size w w' := by
  have HT := Lib.hid hT
  have CM := Lib.hid (lmayN x hx w)
  have hcv : IntKind.u64.wrap (x : Int) = (x : Int) := by rw [IntKind.wrap_u64]; omega
  clear hT
  go_enter Tryd.func7, Tryd.ntmps7
  go_wp2_with fail
  refine CM.out.mono ?_
  rintro e w' ⟨rfl, rfl⟩
  clear CM
  go_wp2_with fail
  go_loopw [4, 5] (fun o y wr => ∃ (l : List Nat) (z : Nat), z < 256 ∧ l.length ≤ 8 ∧ y = .int .u64 (z : Int) ∧ Hid (l ++ memL z = memL x) ∧ Hid (wr.ownsRow w.heap.size 3 1 o l.length (ints (natI l))) ∧ Hid (Below w.heap.size w wr)) (fun _ y _ => (intOf y).toNat)
  case atStart => exact ⟨[], x, hx, by simp, by first | rfl | rw [hcv], rfl, World.ownsRow_nil _ _ _ _, Below.refl _ _⟩
  case round =>
    obtain ⟨l, z, hz, hl, rfl, HE, HO, HB⟩ := hrel
    by_cases h0 : z = 0
    · subst h0
      have e : l = memL x := by have := HE.out; rw [memL_zero, List.append_nil] at this; exact this
      go_wp2_with fail
      go_ret2
      exact ⟨_, rfl, by rw [← e]; exact HO.out, HB.out⟩
    · have hne : ((z : Int) == 0) = false := by simp; omega
      obtain ⟨hs, hlt, h8⟩ := memL_step ⟨z, hz⟩ h0
      have hk := clr_key ⟨z, hz⟩ h0
      simp only at hs hlt h8 hk
      have CZ := Lib.hid (ctz z h0 hz wr (HT.out.on HB.out))
      have HN : Hid ((l ++ [lowI z]) ++ memL (clrB z) = memL x) := by
        show _ = _
        rw [← HE.out, hs]; simp
      have hl8 : (l ++ [lowI z]).length ≤ 8 := by
        have h1 := congrArg List.length HN.out
        have h2 := (memL_facts ⟨x, hx⟩).1
        simp only [List.length_append] at h1 ⊢
        simp only at h2
        omega
      have Hl8 := Lib.hid hl8
      have hsz := HB.out.size
      have HS := Lib.hid (natI_snoc l (lowI z))
      have HLT := Lib.hid hlt
      clear hs hl8 HE hlt
      generalize clrB z = z' at *
      generalize lowI z = lo at *
      go_wp2_with fail
      refine CZ.out.mono ?_
      rintro e w8 ⟨rfl, rfl⟩
      clear CZ
      go_wp2_with (at_builtin; refine wp_app1 (w0 := wr) 23 3 1 8 _ elInt Tryd.underlying23 w.heap.size _ _ _ HO.out (by repeat (first | exact Below.refl _ _ | refine Below.drew ?_ | refine Below.alloc ?_ (by first | (simp; done) | (simp; omega)) _ | refine Below.setCell ?_ (by first | (simp; done) | (simp; omega)) _)) [.int .i64 (lo : Int)] rfl _ _ rfl rfl rfl (by first | exact heap_alloc_new _ _ | (simp only [heap_drew, heap_drewN]; exact heap_alloc_new _ _)) (by simp) rfl rfl (by omega) (by omega) hsz ?_; intro v3 w3 hown3 hgrow3 hb3)
      rw [← HS.out] at hown3
      have hl1 : l.length + 1 = (l ++ [lo]).length := by simp
      rw [hl1] at hown3
      go_roundw
      case rel => exact ⟨l ++ [lo], z', by have := HLT.out; omega, Hl8.out, rfl, HN, hown3, HB.out.trans hb3⟩
      case measure => have := HLT.out; simp [intOf]; omega
def OfOk (l : List Nat) (y cd : Int) : Prop := ((ofF l).2 = 0 → y = ((ofF l).1 : Int) ∧ cd = 0) ∧ ((ofF l).2 = 7 → cd = 7)
set_option maxRecDepth 100000 in
set_option maxHeartbeats 4000000 in
theorem cOf (v : Value) (l : List Nat) (w : World) (h : Has w 1 v l.length (ints (natI l))) (h8 : ∀ x ∈ l, x < 8) (hl : l.length ≤ 20) :
    Calls Tryd.prog 8 #[v] w fun e w' => (∃ y cd : Int, e = .returned (.tuple #[.int .i64 y, .int .i64 cd]) ∧ OfOk l y cd) ∧ w = w' := by
  obtain ⟨⟨hl0, _⟩, a, cap, rfl, hcn, hcm, hc⟩ := h
  unfold maxLen at hcm
  have hcell : Hid (∀ b o k (hk : k < l.length), a = some ⟨b, o, none⟩ → w.cell? ⟨b, o + k, none⟩ = some (.int .i64 ((l[k]'hk : Nat) : Int))) := fun b o k hk ha => by
    obtain ⟨b', o', he, hcc⟩ := hc (by rw [ints_length, natI_len]; omega)
    rw [ha] at he
    simp only [Option.some.injEq, Addr.mk.injEq, and_true] at he
    obtain ⟨rfl, rfl⟩ := he
    exact hcc k _ (by simp [natI, ints, hk])
  have hsome : Hid (0 < l.length → ∃ b o, a = some ⟨b, o, none⟩) := fun h0 => by
    obtain ⟨b', o', he, -⟩ := hc (by rw [ints_length, natI_len]; omega)
    exact ⟨b', o', he⟩
  have H8 := Lib.hid h8
  clear hc hl0 h8
  go_enter Tryd.func8, Tryd.ntmps8
  go_wp2_with fail
  go_loopw [4, 5, 7, 10] (fun x cd _ i wr => ∃ k : Nat, k ≤ l.length ∧ i = .int .i64 (k : Int) ∧ x = .int .u64 ((ofF (l.take k)).1 : Int) ∧ cd = .int .i64 (ofF (l.take k)).2 ∧ Hid (w = wr)) (fun _ _ _ i _ => l.length - (intOf i).toNat)
  case atStart => exact ⟨0, by omega, rfl, rfl, rfl, rfl⟩
  case round =>
    obtain ⟨k, hk, rfl, rfl, rfl, HW⟩ := hrel
    obtain rfl := HW.out
    by_cases hlt : k < l.length
    · have hltz : (k : Int) < (l.length : Int) := by omega
      obtain ⟨b, o, rfl⟩ := hsome.out (by omega)
      have z0 := hcell.out b o k hlt rfl
      have hw8 := H8.out _ (List.getElem_mem hlt)
      have hx := ofF_lt l H8.out k hk
      have e : ofF (l.take (k + 1)) = ofStep (ofF (l.take k)) l[k] := by unfold ofF; rw [List.take_succ_eq_append_getElem hlt, List.foldl_append]; rfl
      have he1 : Hid ((ofF (l.take (k + 1))).1 = (ofF (l.take k)).1 ||| 2 ^ l[k]) := by show _ = _; rw [e]; rfl
      have he2 : Hid ((ofF (l.take (k + 1))).2 = if (ofF (l.take k)).1.testBit l[k] then 7 else (ofF (l.take k)).2) := by show _ = _; rw [e]; rfl
      have q1 := of_bit ⟨_, hx⟩ ⟨_, hw8⟩
      have q2 := of_set ⟨_, hx⟩ ⟨_, hw8⟩
      simp only at q1 q2
      have hlo : ((l[k] : Nat) : Int) < 8 := by omega
      have HK := Lib.hid hlt
      clear e
      generalize l[k] = wh at *
      generalize (ofF (l.take k)).1 = X at *
      generalize (ofF (l.take k)).2 = CD at *
      cases hb : X.testBit wh with
      | true =>
        rw [hb] at q1 he2
        simp only [↓reduceIte] at he2
        go_wp2_with fail
        go_roundw
        case rel => exact ⟨k + 1, HK.out, by go_num, by rw [he1.out, ← q2], by rw [he2.out], by first | exact trivial | rfl⟩
        case measure => have := HK.out; first | (simp [intOf]; done) | (simp [intOf]; omega)
      | false =>
        rw [hb] at q1 he2
        simp only [Bool.false_eq_true, ↓reduceIte] at he2
        go_wp2_with fail
        go_roundw
        case rel => exact ⟨k + 1, HK.out, by go_num, by rw [he1.out, ← q2], by rw [he2.out], by first | exact trivial | rfl⟩
        case measure => have := HK.out; first | (simp [intOf]; done) | (simp [intOf]; omega)
    · obtain rfl : k = l.length := by omega
      have hx := ofF_lt l H8.out l.length (Nat.le_refl _)
      rw [List.take_of_length_le (Nat.le_refl _)] at hx ⊢
      have H0 : (ofF l).2 = 0 → Hid (OfOk l ((ofF l).1 : Int) 0) := fun h => ⟨fun _ => ⟨rfl, rfl⟩, fun h2 => by rw [h] at h2; simp at h2⟩
      have H7 : (ofF l).2 = 7 → Hid (OfOk l 0 7) := fun h => ⟨fun h2 => by rw [h] at h2; simp at h2, fun _ => rfl⟩
      have hcd := ofF_code l
      generalize (ofF l).1 = X at *
      generalize (ofF l).2 = CD at *
      have hcv : IntKind.i64.wrap (X : Int) = (X : Int) := IntWalk.i64_in _ (by omega)
      rcases hcd with rfl | rfl
      · replace H0 := H0 rfl
        clear H7 hcell hsome H8
        go_wp2_with fail
        go_ret2
        exact ⟨⟨_, _, rfl, H0.out⟩, rfl⟩
      · replace H7 := H7 rfl
        clear H0 hcell hsome H8
        go_wp2_with fail
        go_ret2
        exact ⟨⟨_, _, rfl, H7.out⟩, rfl⟩
end Go.Proofs.YtjnjecednkiakaaDoor
