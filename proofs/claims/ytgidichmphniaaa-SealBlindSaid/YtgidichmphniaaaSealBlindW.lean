/- SealBlind: the walk. -/
import Derived.Test.YtgidichmphniaaaBlindL
import Derived.Test.YtgidichmphniaaaOpenBytes
import Derived.Laws.CopyOwn
namespace Go.Proofs.Ytgidichmphniaaa.sealBlind
open Go.ChangeShapes Go.WideShapes Go.ChangeAt Go.RowKit
set_option linter.unusedVariables false
set_option linter.unusedSimpArgs false

theorem csameB (v1 v2 : Value) (E : List Nat) (w : World) (h1 : Has w 1 v1 E.length (u8s E)) (h2 : Has w 1 v2 E.length (u8s E)) :
    Calls Try.prog 9 #[v1, v2] w fun e w' => e = .returned (.bool true) ∧ Below w.heap.size w w' :=
  (csameBytes v1 v2 E E w h1 h2).mono fun _ _ h => by simpa using h
theorem infoByte : (Try.prog.info? 5).map (fun i => (i.zero, i.size, i.bytes)) = some (some (.int .u8 0), 1, 1) := by kernel_rfl
theorem zeros_u8s (n : Nat) : List.replicate n (Value.int .u8 0) = u8s (List.replicate n 0) := by simp [u8s]
theorem splice_u8s (a b : List Nat) : ∃ d : List Nat, splice (u8s a) 0 (u8s b) = u8s d ∧ d.length = (splice (u8s a) 0 (u8s b)).length :=
  ⟨b ++ a.drop b.length, by simp [splice, u8s], by simp [splice, u8s]⟩
/-- What was sent instead, so far. -/
structure MsAt (w2 wr : World) (q : Int) (l : List Mv) (k : Nat) (v : Value) (lv : List MV) (M : List Mv) : Prop where
  own : wr.ownsRow w2.heap.size 32 5 v k (mvs lv)
  both : Both (MvAt wr) lv M
  len : M.length = k
  ok : ∀ x ∈ M, x.Ok
  same : ∀ (i : Nat) (x y : Mv), l[i]? = some x → M[i]? = some y → MvSame q x y
  hb : Below w2.heap.size w2 wr
theorem ms_step {w2 wr w5 w6 : World} {q : Int} {l : List Mv} {k : Nat} {v v' : Value} {lv : List MV} {M : List Mv} (h : MsAt w2 wr q l k v lv M) (hk : k < l.length) (hb : Below wr.heap.size wr w5) {x : MV} {y : Mv} (hx : MvAt w5 x y) (hy : y.Ok) (hs : MvSame q l[k] y)
    (ho : w6.ownsRow w2.heap.size 32 5 v' (k + 1) (mvs lv ++ x.cells)) (hg : w5.grownBy w6 v.ownBlock) (hb6 : Below w2.heap.size w5 w6) : MsAt w2 w6 q l (k + 1) v' (lv ++ [x]) (M ++ [y]) := by
  have hch := Chc.grown (T := [32]) (owns_below h.own hb) hg (by simp)
  refine ⟨?_, ?_, by simp [h.len], fun z hz => ?_, fun i a b ha hb => ?_, (h.hb.trans (hb.mono h.hb.size)).trans hb6⟩
  · have := flat_snoc MV.cells lv x
    unfold mvs at ho ⊢
    rw [← this]; exact ho
  · exact Both.snoc (h.both.mono fun a b _ _ r => ⟨r.kind, r.f, r.t, r.id, (r.d.below hb).chc hch (by decide)⟩) ⟨hx.kind, hx.f, hx.t, hx.id, hx.d.chc hch (by decide)⟩
  · rcases List.mem_append.1 hz with hz | hz
    · exact h.ok z hz
    · simp at hz; subst hz; exact hy
  · by_cases hi : i < M.length
    · rw [List.getElem?_append_left hi] at hb
      exact h.same i a b ha hb
    · have : i = M.length := by have := (List.getElem?_eq_some_iff.1 hb).1; simp at this; omega
      subst this
      rw [List.getElem?_append_right (Nat.le_refl _), Nat.sub_self] at hb
      simp at hb
      subst hb
      rw [h.len, List.getElem?_eq_getElem hk] at ha
      rw [← Option.some.inj ha]; exact hs
set_option maxRecDepth 100000 in
set_option maxHeartbeats 8000000 in
theorem walk (w : World) (v0 : Value) (ml : List ML) (A0 : ∃ l : List Ml, Has w 5 v0 l.length (mls ml) ∧ Both (MlAt w) ml l) (v1 : Value) (vs : List Value) (A1 : ∃ ds : List (List Nat), Has w 1 v1 ds.length vs ∧ Both (OneOf w) vs ds) (a2 : Int) (w2 : (Lit.int .i64 a2).wf = true) :
    Calls Try.prog 4 #[v0, v1, .int .i64 a2] w fun e w' => e = .returned (.bool true) ∧ Below w.heap.size w w' := by
  obtain ⟨ll, A1', A2⟩ := A0
  obtain ⟨ds, D1, D2⟩ := A1
  have CL := Lib.hid (cLetters v0 ml ll w A1' A2)
  have hok := lettersOf_ok ll
  have hl60 := lettersOf_len ll
  have P1 := Lib.hid (fun X => picked a2 4 (by omega) (by omega) X)
  obtain ⟨q0, q1⟩ := pick_bd a2 4 (by omega)
  generalize pick a2 4 = q at *
  generalize lettersOf ll = l at *
  have Hok := Lib.hid hok
  have HD1 := Lib.hid D1
  have HD2 := Lib.hid D2
  obtain ⟨_, aD, cD, rfl, hD1, hD2, _⟩ := D1
  unfold maxLen at hD2
  clear A1' A2 hok D2
  go_enter Try.func4, Try.ntmps4
  go_wp2_with fail
  refine CL.out.mono ?_
  rintro e w1 ⟨vl, lv, rfl, hown, hB, hb1⟩
  obtain ⟨al, cl, rfl⟩ := owns_slice hown
  have HL := Lib.hid (Has.of_owns hown)
  have HB := Lib.hid hB
  have Hb1 := Lib.hid hb1
  clear hown hB hb1 CL
  go_wp2_with fail
  refine (P1.out _).mono ?_
  rintro e w2 ⟨rfl, rfl⟩
  obtain ⟨hcl1, hcl2⟩ : l.length ≤ cl ∧ cl ≤ maxLen := by
    obtain ⟨_, _, _, he, h1, h2, _⟩ := HL.out
    simp only [Value.slice.injEq] at he
    obtain ⟨-, -, rfl⟩ := he
    exact ⟨h1, h2⟩
  unfold maxLen at hcl2
  go_wp2_with fail
  go_loopw [9, 10] (fun v i wr => ∃ (k : Nat) (lM : List MV) (M : List Mv), k ≤ l.length ∧ i = .int .i64 k ∧ MsAt w1 wr q l k v lM M) (fun _ i _ => l.length - (intOf i).toNat)
  case atStart => exact ⟨0, [], [], by omega, rfl, World.ownsRow_nil _ _ _ _, Both.nil _, rfl, fun x hx => by simp at hx, fun i x y _ hy => by simp at hy, Below.refl _ _⟩
  case round =>
    obtain ⟨k, lM, M, hk, rfl, hM⟩ := hrel
    have HM := Lib.hid hM
    clear hM
    by_cases hlt : k < l.length
    · obtain ⟨b, off, xa, xc, rfl, ⟨⟨x0, x1⟩, ⟨x2, x3⟩, x4⟩, hxd⟩ := mv_get HL.out HB.out k hlt
      replace x0 := cell_on HM.out.hb x0
      replace x1 := cell_on HM.out.hb x1
      replace x2 := cell_on HM.out.hb x2
      replace x3 := cell_on HM.out.hb x3
      replace x4 := cell_on HM.out.hb x4
      have hbl := World.block_lt_of_cell? wr _ x0
      have hxok := Hok.out _ (List.getElem_mem hlt)
      have Hxd := Lib.hid (hxd.below HM.out.hb)
      have Hst := Lib.hid (fun w5 w6 v' x y hb hx hy hs ho hg hb6 => ms_step (w5 := w5) (w6 := w6) (v' := v') (x := x) (y := y) HM.out hlt hb hx hy hs ho hg hb6)
      have Hxok := Lib.hid hxok
      have hsz := HM.out.hb.size
      have hdl := hxok.2.2.2
      generalize l[k] = x at *
      obtain ⟨xk, xf, xt, xi, xd⟩ := x
      simp only at *
      clear hxd hxok
      by_cases c1 : xk = 1 ∧ xt ≠ q
      · obtain ⟨rfl, c2⟩ := c1
        have d1 : ((1 : Int) == 1) = true := rfl
        have d2 : (xt != q) = true := by simpa using c2
        have HS : Hid (∀ d : List Nat, d.length = xd.length → MvSame q ⟨1, xf, xt, xi, xd⟩ ⟨1, xf, xt, xi, d⟩) := fun d hd => ⟨rfl, rfl, rfl, rfl, hd.symm, fun _ h => absurd h c2⟩
        have HO : Hid (∀ d : List Nat, d.length = xd.length → Mv.Ok ⟨1, xf, xt, xi, d⟩) := fun d hd => by
          obtain ⟨h1, h2, h3, h4⟩ := Hxok.out
          exact ⟨h1, h2, h3, by simp only at h4 ⊢; omega⟩
        have hmk := fun X => run_mk infoByte Try.underlying30 rfl X xd.length (by omega) (by omega)
        have hz : (wr.alloc (.cells #[.int .i64 1, .int .i64 xf, .int .i64 xt, .int .i64 xi, .slice xa xd.length xc] 32)).heap.size = wr.heap.size + 1 := by simp
        clear c2
        by_cases hkd : k < ds.length
        · obtain ⟨vk, hvk, hvd⟩ := HD2.out.get k hkd
          obtain ⟨⟨hdl1, hdnil⟩, aD', cD', he, -, -, hDc⟩ := HD1.out
          simp only [Value.slice.injEq] at he
          obtain ⟨rfl, -, rfl⟩ := he
          obtain ⟨bD, oD, rfl, hDcc⟩ := hDc (by omega)
          have hbw : Below w.heap.size w wr := Hb1.out.trans (HM.out.hb.mono Hb1.out.size)
          have t0 := cell_on hbw (hDcc k _ hvk)
          obtain ⟨⟨hkl, hknil⟩, ak, ck, rfl, hk1, hk2, hkc⟩ := hvd
          have Hkc := Lib.hid hkc
          have Hbw := Lib.hid hbw
          have hkd' : (k : Int) < ds.length := by omega
          have hbD : bD < wr.heap.size := World.block_lt_of_cell? wr _ t0
          have hbD1 : bD < wr.heap.size + 1 := by omega
          unfold maxLen at hk2
          generalize ds[k] = dk at *
          have hcl : (u8s (dk.take xd.length)).length = Nat.min dk.length xd.length := by rw [u8s_length, List.length_take]; exact Nat.min_comm _ _
          have Hcl := Lib.hid hcl
          clear hcl hkc hdl1 hdnil hDc hDcc hvk hkl hknil hbw
          have hZ : ((wr.alloc (.cells #[.int .i64 1, .int .i64 xf, .int .i64 xt, .int .i64 xi, .slice xa xd.length xc] 32)).alloc (.cells (Array.replicate xd.length (Value.int .u8 0)) 5)).heap[wr.heap.size + 1]? = some (.cells (List.replicate xd.length (Value.int .u8 0)).toArray 5 (0, 0)) := by
            have h := heap_alloc_new (wr.alloc (.cells #[.int .i64 1, .int .i64 xf, .int .i64 xt, .int .i64 xi, .slice xa xd.length xc] 32)) (.cells (Array.replicate xd.length (Value.int .u8 0)) 5)
            rw [hz] at h
            simpa using h
          have hBz : Below (wr.heap.size + 1) (wr.alloc (.cells #[.int .i64 1, .int .i64 xf, .int .i64 xt, .int .i64 xi, .slice xa xd.length xc] 32)) ((wr.alloc (.cells #[.int .i64 1, .int .i64 xf, .int .i64 xt, .int .i64 xi, .slice xa xd.length xc] 32)).alloc (.cells (Array.replicate xd.length (Value.int .u8 0)) 5)) := (Below.refl _ _).alloc (by rw [hz]; exact Nat.le_refl _) _
          have HZ := Lib.hid hZ
          have HBz := Lib.hid hBz
          clear hZ hBz
          generalize hcc : u8s (dk.take xd.length) = cc at *
          have Hcc := Lib.hid hcc
          clear hcc
          go_wp2_with (with_reducible refine wpList_copy_splice rfl _ _ _ _ rfl 5 Try.underlying30 (by kernel_rfl) _ _ _ _ _ _ rfl rfl (wr.heap.size + 1) 0 (List.replicate xd.length (Value.int .u8 0)) 5 HZ.out cc Hcl.out ?_ ?_ ?_ (wr.heap.size + 1) (wr.alloc (.cells #[.int .i64 1, .int .i64 xf, .int .i64 xt, .int .i64 xi, .slice xa xd.length xc] 32)) HBz.out (Nat.le_refl _) ?_)
          case refine_1 =>
            intro hp
            rw [Hcl.out] at hp
            have hbl0 : 0 < dk.length := by have : Nat.min dk.length xd.length ≤ dk.length := Nat.min_le_left _ _; omega
            obtain ⟨b', off', rfl, hb'⟩ := Hkc.out (by simpa using hbl0)
            refine ⟨⟨b', off', none⟩, rfl, fun j v hj => ?_⟩
            rw [addr_add _ _ rfl]
            refine cell_on (Hbw.out.trans ((show Below wr.heap.size wr ((wr.alloc (.cells #[.int .i64 1, .int .i64 xf, .int .i64 xt, .int .i64 xi, .slice xa xd.length xc] 32)).alloc (.cells (Array.replicate xd.length (Value.int .u8 0)) 5)) from (by repeat (first | exact Below.refl _ _ | refine Below.drew ?_ | refine Below.alloc ?_ (by first | (simp; done) | (simp; omega)) _ | refine Below.setCell ?_ (by first | (simp; done) | (simp; omega)) _))).mono Hbw.out.size)) (hb' j v ?_)
            rw [← Hcc.out] at hj
            unfold u8s at hj ⊢
            rw [List.map_take, List.getElem?_take] at hj
            split at hj
            · exact hj
            · cases hj
          case refine_2 => rw [Hcl.out, Nat.zero_add, List.length_replicate]; exact Nat.min_le_right _ _
          case refine_3 => intro v hv; rw [← Hcc.out] at hv; exact List.all_eq_true.1 (u8s_all _) v hv
          intro w3 hrow hb3
          obtain ⟨dd, hdd, hddl⟩ := splice_u8s (List.replicate xd.length 0) (dk.take xd.length)
          have hddn : dd.length = xd.length := by
            rw [hddl, Hcc.out]
            have h1 := Hcl.out
            have h2 : Nat.min dk.length xd.length ≤ xd.length := Nat.min_le_right _ _
            simp [splice]; omega
          have hrow2 : w3.heap[wr.heap.size + 1]? = some (.cells (u8s dd).toArray 5 (0, 0)) := by
            have h := hrow.out
            rw [zeros_u8s, ← Hcc.out, hdd] at h
            exact h
          have hX3 : w3.heap[wr.heap.size]? = some (.cells #[.int .i64 1, .int .i64 xf, .int .i64 xt, .int .i64 xi, .slice xa xd.length xc] 32 (0, 0)) := (hb3.block _ (by omega)).trans (heap_alloc_new _ _)
          have hT3 : w3.ownsRow wr.heap.size 5 1 (.slice (some ⟨wr.heap.size + 1, 0, none⟩) xd.length xd.length) xd.length (u8s dd) := owns_block (wp := (wr.alloc (.cells #[.int .i64 1, .int .i64 xf, .int .i64 xt, .int .i64 xi, .slice xa xd.length xc] 32))) (cs := u8s dd) (by rw [hz]; exact hrow2) (by rw [hz]) (by simp [hddn]) (by unfold maxLen; omega) (by rw [hz]; omega)
          have hch := Chc.setCell (T := [32]) (p := ⟨wr.heap.size, 4, none⟩) hX3 (by simp) (.slice (some ⟨wr.heap.size + 1, 0, none⟩) xd.length xd.length)
          have hW : Below wr.heap.size wr (w3.setCell ⟨wr.heap.size, 4, none⟩ (.slice (some ⟨wr.heap.size + 1, 0, none⟩) xd.length xd.length)) := (((Below.refl _ _).alloc (Nat.le_refl _) _).trans (hb3.mono (Nat.le_succ _))).setCell (Nat.le_refl _) _
          have HX : Hid (MvAt (w3.setCell ⟨wr.heap.size, 4, none⟩ (.slice (some ⟨wr.heap.size + 1, 0, none⟩) xd.length xd.length)) ⟨1, xf, xt, xi, .slice (some ⟨wr.heap.size + 1, 0, none⟩) xd.length xd.length⟩ ⟨1, xf, xt, xi, dd⟩) := ⟨rfl, rfl, rfl, rfl, by simp only; rw [hddn]; exact (HasT.of_owns hT3).chc hch (by decide)⟩
          obtain ⟨⟨z0, z1⟩, ⟨z2, z3⟩, z4⟩ := cells5 (a0 := .int .i64 1) (a1 := .int .i64 xf) (a2 := .int .i64 xt) (a3 := .int .i64 xi) (a4 := .slice (some ⟨wr.heap.size + 1, 0, none⟩) xd.length xd.length) (heap_setCell_same w3 wr.heap.size 4 _ _ (.slice (some ⟨wr.heap.size + 1, 0, none⟩) xd.length xd.length) hX3)
          obtain ⟨-, -, y4⟩ := cells5 hX3
          have yf : w3.frozen? ⟨wr.heap.size, 4, none⟩ = false := by simp [World.frozen?, hX3]
          have Hown := Lib.hid (owns_below HM.out.own hW)
          have HW := Lib.hid hW
          have hszW : w1.heap.size ≤ (w3.setCell ⟨wr.heap.size, 4, none⟩ (.slice (some ⟨wr.heap.size + 1, 0, none⟩) xd.length xd.length)).heap.size := Nat.le_trans hsz hW.size
          have Hddn := Lib.hid hddn
          clear hdd hddl hddn hrow hrow2 hb3 hX3 hT3 hch hW hz HZ HBz Hcc Hcl
          go_wp2_with (at_builtin; refine wp_app1 (w0 := (w3.setCell ⟨wr.heap.size, 4, none⟩ (.slice (some ⟨wr.heap.size + 1, 0, none⟩) xd.length xd.length))) 23 32 5 56 _ elLetterA Try.underlying23 w1.heap.size _ _ _ Hown.out (by repeat (first | exact Below.refl _ _ | refine Below.drew ?_ | refine Below.alloc ?_ (by first | (simp; done) | (simp; omega)) _ | refine Below.setCell ?_ (by first | (simp; done) | (simp; omega)) _)) [.int .i64 1, .int .i64 xf, .int .i64 xt, .int .i64 xi, .slice (some ⟨wr.heap.size + 1, 0, none⟩) xd.length xd.length] rfl _ _ rfl rfl rfl (by first | exact heap_alloc_new _ _ | (simp only [heap_drew, heap_drewN]; exact heap_alloc_new _ _)) (by simp) rfl rfl (by omega) (by omega) hszW ?_; intro v6 w6 hown6 hgrow6 hb6)
          go_roundw
          case rel => exact ⟨k + 1, _, _, by omega, by go_num, Hst.out _ _ _ _ _ HW.out HX.out (HO.out _ Hddn.out) (HS.out _ Hddn.out) hown6 hgrow6 hb6⟩
          case measure => simp [intOf]; omega
        · have hkd' : ¬ (k : Int) < ds.length := by omega
          have hT : ((wr.alloc (.cells #[.int .i64 1, .int .i64 xf, .int .i64 xt, .int .i64 xi, .slice (some ⟨wr.heap.size + 1, 0, none⟩) xd.length xd.length] 32)).alloc (.cells (List.replicate xd.length (Value.int .u8 0)).toArray 5)).ownsRow wr.heap.size 5 1 (.slice (some ⟨wr.heap.size + 1, 0, none⟩) xd.length xd.length) xd.length (u8s (List.replicate xd.length 0)) :=
            owns_block (wp := (wr.alloc (.cells #[.int .i64 1, .int .i64 xf, .int .i64 xt, .int .i64 xi, .slice (some ⟨wr.heap.size + 1, 0, none⟩) xd.length xd.length] 32))) (cs := u8s (List.replicate xd.length 0)) (by rw [← zeros_u8s]; exact heap_alloc_new _ _) (by simp) (by simp) (by unfold maxLen; omega) (by simp)
          have hW : Below wr.heap.size wr ((wr.alloc (.cells #[.int .i64 1, .int .i64 xf, .int .i64 xt, .int .i64 xi, .slice (some ⟨wr.heap.size + 1, 0, none⟩) xd.length xd.length] 32)).alloc (.cells (List.replicate xd.length (Value.int .u8 0)).toArray 5)) := (by repeat (first | exact Below.refl _ _ | refine Below.drew ?_ | refine Below.alloc ?_ (by first | (simp; done) | (simp; omega)) _ | refine Below.setCell ?_ (by first | (simp; done) | (simp; omega)) _))
          have HX : Hid (MvAt ((wr.alloc (.cells #[.int .i64 1, .int .i64 xf, .int .i64 xt, .int .i64 xi, .slice (some ⟨wr.heap.size + 1, 0, none⟩) xd.length xd.length] 32)).alloc (.cells (List.replicate xd.length (Value.int .u8 0)).toArray 5)) ⟨1, xf, xt, xi, .slice (some ⟨wr.heap.size + 1, 0, none⟩) xd.length xd.length⟩ ⟨1, xf, xt, xi, List.replicate xd.length 0⟩) := ⟨rfl, rfl, rfl, rfl, by simp only; rw [List.length_replicate]; exact HasT.of_owns hT⟩
          have Hown := Lib.hid (owns_below HM.out.own hW)
          have HW := Lib.hid hW
          have hszW : w1.heap.size ≤ ((wr.alloc (.cells #[.int .i64 1, .int .i64 xf, .int .i64 xt, .int .i64 xi, .slice (some ⟨wr.heap.size + 1, 0, none⟩) xd.length xd.length] 32)).alloc (.cells (List.replicate xd.length (Value.int .u8 0)).toArray 5)).heap.size := Nat.le_trans hsz hW.size
          clear hT hW hz
          go_wp2_with (at_builtin; refine wp_app1 (w0 := ((wr.alloc (.cells #[.int .i64 1, .int .i64 xf, .int .i64 xt, .int .i64 xi, .slice (some ⟨wr.heap.size + 1, 0, none⟩) xd.length xd.length] 32)).alloc (.cells (List.replicate xd.length (Value.int .u8 0)).toArray 5))) 23 32 5 56 _ elLetterA Try.underlying23 w1.heap.size _ _ _ Hown.out (by repeat (first | exact Below.refl _ _ | refine Below.drew ?_ | refine Below.alloc ?_ (by first | (simp; done) | (simp; omega)) _ | refine Below.setCell ?_ (by first | (simp; done) | (simp; omega)) _)) [.int .i64 1, .int .i64 xf, .int .i64 xt, .int .i64 xi, .slice (some ⟨wr.heap.size + 1, 0, none⟩) xd.length xd.length] rfl _ _ rfl rfl rfl (by first | exact heap_alloc_new _ _ | (simp only [heap_drew, heap_drewN]; exact heap_alloc_new _ _)) (by simp) rfl rfl (by omega) (by omega) hszW ?_; intro v6 w6 hown6 hgrow6 hb6)
          go_roundw
          case rel => exact ⟨k + 1, _, _, by omega, by go_num, Hst.out _ _ _ _ _ HW.out HX.out (HO.out _ (by simp)) (HS.out _ (by simp)) hown6 hgrow6 hb6⟩
          case measure => simp [intOf]; omega
      · have HX : Hid (MvAt wr ⟨xk, xf, xt, xi, .slice xa xd.length xc⟩ ⟨xk, xf, xt, xi, xd⟩) := ⟨rfl, rfl, rfl, rfl, Hxd.out⟩
        have HS : Hid (MvSame q ⟨xk, xf, xt, xi, xd⟩ ⟨xk, xf, xt, xi, xd⟩) := ⟨rfl, rfl, rfl, rfl, rfl, fun _ _ => rfl⟩
        by_cases c2 : xk = 1
        · have d1 : (xk == 1) = true := by simpa using c2
          have d2 : (xt != q) = false := by rw [bne_eq_false_iff_eq]; exact Classical.byContradiction fun h => c1 ⟨c2, h⟩
          clear c1 c2
          go_wp2_with (at_builtin; refine wp_app1 (w0 := wr) 23 32 5 56 _ elLetterA Try.underlying23 w1.heap.size _ _ _ HM.out.own (by repeat (first | exact Below.refl _ _ | refine Below.drew ?_ | refine Below.alloc ?_ (by first | (simp; done) | (simp; omega)) _ | refine Below.setCell ?_ (by first | (simp; done) | (simp; omega)) _)) [.int .i64 xk, .int .i64 xf, .int .i64 xt, .int .i64 xi, .slice xa xd.length xc] rfl _ _ rfl rfl rfl (by first | exact heap_alloc_new _ _ | (simp only [heap_drew, heap_drewN]; exact heap_alloc_new _ _)) (by simp) rfl rfl (by omega) (by omega) hsz ?_; intro v6 w6 hown6 hgrow6 hb6)
          go_roundw
          case rel => exact ⟨k + 1, _, _, by omega, by go_num, Hst.out _ _ _ _ _ (Below.refl _ _) HX.out Hxok.out HS.out hown6 hgrow6 hb6⟩
          case measure => simp [intOf]; omega
        · have d1 : (xk == 1) = false := by simpa using c2
          clear c1 c2
          go_wp2_with (at_builtin; refine wp_app1 (w0 := wr) 23 32 5 56 _ elLetterA Try.underlying23 w1.heap.size _ _ _ HM.out.own (by repeat (first | exact Below.refl _ _ | refine Below.drew ?_ | refine Below.alloc ?_ (by first | (simp; done) | (simp; omega)) _ | refine Below.setCell ?_ (by first | (simp; done) | (simp; omega)) _)) [.int .i64 xk, .int .i64 xf, .int .i64 xt, .int .i64 xi, .slice xa xd.length xc] rfl _ _ rfl rfl rfl (by first | exact heap_alloc_new _ _ | (simp only [heap_drew, heap_drewN]; exact heap_alloc_new _ _)) (by simp) rfl rfl (by omega) (by omega) hsz ?_; intro v6 w6 hown6 hgrow6 hb6)
          go_roundw
          case rel => exact ⟨k + 1, _, _, by omega, by go_num, Hst.out _ _ _ _ _ (Below.refl _ _) HX.out Hxok.out HS.out hown6 hgrow6 hb6⟩
          case measure => simp [intOf]; omega
    · obtain rfl : k = l.length := by omega
      have hokM := HM.out.ok
      have hlM := HM.out.len
      have Hsame := Lib.hid HM.out.same
      obtain ⟨aM, cM, rfl⟩ := owns_slice HM.out.own
      have Hbw : Hid (Below w.heap.size w wr) := Hb1.out.trans (HM.out.hb.mono Hb1.out.size)
      have CM := Lib.hid (cmailed _ lv l wr (HL.out.below HM.out.hb) (both_on HB.out HM.out.hb) Hok.out (by omega))
      have HMh : Hid (Has wr 5 (.slice aM l.length cM) M.length (mvs lM)) := by rw [hlM]; exact Has.of_owns HM.out.own
      have HMb := Lib.hid HM.out.both
      have HokM := Lib.hid hokM
      have HlM := Lib.hid hlM
      have HLr := Lib.hid (HL.out.below HM.out.hb)
      have HBr := Lib.hid (both_on HB.out HM.out.hb)
      clear hokM hlM HM HL HB Hb1
      go_wp2_with fail
      refine CM.out.mono ?_
      rintro e w3 ⟨va, oa, rfl, howna, hBa, hb3⟩
      have CM2 := Lib.hid (cmailed _ lM M w3 (HMh.out.below hb3) (both_on HMb.out hb3) HokM.out (by have := HlM.out; omega))
      have Hw3 : Hid (Below w.heap.size w w3) := Hbw.out.trans (hb3.mono Hbw.out.size)
      have HOa := Lib.hid howna
      have HBa := Lib.hid hBa
      have HL3 := Lib.hid (HLr.out.below hb3)
      have HB3 := Lib.hid (both_on HBr.out hb3)
      clear howna hBa hb3 CM HMh HMb HokM Hbw HLr HBr
      go_wp2_with fail
      refine CM2.out.mono ?_
      rintro e w4 ⟨vb, ob, rfl, hownb, hBb, hb4⟩
      rw [HlM.out] at hownb
      have Hw4 : Hid (Below w.heap.size w w4) := Hw3.out.trans (hb4.mono Hw3.out.size)
      have HOb := Lib.hid hownb
      have HBb := Lib.hid hBb
      have HOa4 := Lib.hid (owns_below HOa.out hb4)
      have HBa4 := Lib.hid (outs_on HBa.out hb4)
      have HL4 := Lib.hid (HL3.out.below hb4)
      have HB4 := Lib.hid (both_on HB3.out hb4)
      clear hownb hBb hb4 CM2 HOa HBa HL3 HB3 Hw3
      go_wp2_with fail
      refine (csealSure w4).mono ?_
      rintro e w5 ⟨rfl, hb5⟩
      have Hw5 : Hid (Below w.heap.size w w5) := Hw4.out.trans (hb5.mono Hw4.out.size)
      have HOb5 := Lib.hid (owns_below HOb.out hb5)
      have HBb5 := Lib.hid (outs_on HBb.out hb5)
      have HOa5 := Lib.hid (owns_below HOa4.out hb5)
      have HBa5 := Lib.hid (outs_on HBa4.out hb5)
      have HL5 := Lib.hid (HL4.out.below hb5)
      have HB5 := Lib.hid (both_on HB4.out hb5)
      clear hb5 Hw4 HOb HBb HOa4 HBa4 HL4 HB4
      have HSame := Lib.hid (blind HlM.out.symm Hsame.out)
      obtain ⟨_, _, _, hea, hca1, hca2, _⟩ := Has.of_owns HOa5.out
      obtain ⟨aa0, ca0, rfl⟩ := owns_slice HOa5.out
      simp only [Value.slice.injEq] at hea
      obtain ⟨-, -, rfl⟩ := hea
      unfold maxLen at hca2
      go_wp2_with fail
      go_loopw [17] (fun i wr => ∃ m : Nat, m ≤ l.length ∧ i = .int .i64 m ∧ Below w5.heap.size w5 wr) (fun i _ => l.length - (intOf i).toNat)
      case atStart => exact ⟨0, by omega, rfl, Below.refl _ _⟩
      case round =>
        obtain ⟨j, hj, rfl, hb⟩ := hrel
        have Hb := Lib.hid hb
        by_cases hjl : j < l.length
        · obtain ⟨bl, offl, xa, xc, rfl, ⟨⟨x0, -⟩, ⟨x2, -⟩, -⟩, -⟩ := mv_get HL5.out HB5.out j hjl
          obtain ⟨ga, ca, aa, ac, hea, ⟨ha1, ha2⟩, ⟨⟨a0, a1'⟩, a2, a3⟩, hda⟩ := ov_get HOa5.out HBa5.out (sOuts_length l) j (by rw [sOuts_length]; exact hjl)
          simp only [Value.slice.injEq] at hea
          obtain ⟨rfl, -, rfl⟩ := hea
          obtain ⟨gb, cb, ba, bc, rfl, ⟨hb1, hb2⟩, ⟨⟨b0, b1⟩, b2, b3⟩, hdb⟩ := ov_get HOb5.out HBb5.out (by rw [sOuts_length]; exact HlM.out) j (by rw [sOuts_length, HlM.out]; exact hjl)
          have hS := HSame.out j hjl (by rw [sOuts_length]; exact hjl) (by rw [sOuts_length, HlM.out]; exact hjl)
          have hkind := (Hok.out _ (List.getElem_mem hjl)).1
          generalize l[j] = z at *
          generalize (sOuts l)[j]'(by rw [sOuts_length]; exact hjl) = y at *
          generalize (sOuts M)[j]'(by rw [sOuts_length, HlM.out]; exact hjl) = y' at *
          obtain ⟨zk, zf, zt, zi, zd⟩ := z
          obtain ⟨yc, yi, ys, yd⟩ := y
          obtain ⟨yc', yi', ys', yd'⟩ := y'
          obtain ⟨s1, s2, s3, s4, s5⟩ := hS
          simp only at *
          subst s1; subst s2; subst s3
          replace x0 := cell_on hb x0
          replace x2 := cell_on hb x2
          replace a0 := cell_on hb a0
          replace a1' := cell_on hb a1'
          replace a2 := cell_on hb a2
          replace a3 := cell_on hb a3
          replace b0 := cell_on hb b0
          replace b1 := cell_on hb b1
          replace b2 := cell_on hb b2
          replace b3 := cell_on hb b3
          have Hda := Lib.hid (hda.below hb)
          have Hdb := Lib.hid (hdb.below hb)
          unfold maxLen at hb2
          clear hda hdb hb ha2
          by_cases c1 : zk = 2 ∧ zt ≠ q
          · have d1 : (zk == 2) = true := by simpa using c1.1
            have d2 : (zt != q) = true := by simpa using c1.2
            clear c1
            go_upto_region 21 with (fail)
            go_quiet (fail)
            go_upto_region 23 with (fail)
            go_quiet (fail)
            go_wp2_with fail
            go_roundw
            case rel => exact ⟨j + 1, by omega, by go_num, below_drewN Hb.out _⟩
            case measure => simp [intOf]; omega
          · have e := s5 (by rcases hkind with h | h; exact .inl h.1; exact .inr (Classical.byContradiction fun hh => c1 ⟨h, hh⟩))
            subst e
            by_cases c2 : zk = 2
            case' pos =>
              have d1 : (zk == 2) = true := by simpa using c2
              have d2 : (zt != q) = false := by rw [bne_eq_false_iff_eq]; exact Classical.byContradiction fun h => c1 ⟨c2, h⟩
              clear c1 c2
            case' neg =>
              have d1 : (zk == 2) = false := by simpa using c2
              clear c1 c2
            all_goals
              go_upto_region 21 with (fail)
              go_quiet (fail)
              go_upto_region 23 with (fail)
              have hdr : Below wr.heap.size wr (wr.drewN nq) := below_drewN (Below.refl _ _) _
              obtain ⟨w9, hw9⟩ : ∃ x, x = wr.drewN nq := ⟨_, rfl⟩
              rw [← hw9] at hdr
              have Hb9 : Hid (Below w5.heap.size w5 w9) := Hb.out.trans (hdr.mono Hb.out.size)
              have CS : Hid (∀ X : Ext w9, Calls Try.prog 9 #[.slice aa yd.length ac, .slice ba yd.length bc] X.1 fun e w' => e = .returned (.bool true) ∧ Below X.1.heap.size X.1 w') := fun X => csameB _ _ yd X.1 ((Hda.out.below hdr).below X.2).has ((Hdb.out.below hdr).below X.2).has
              replace x0 := cell_on hdr x0
              replace x2 := cell_on hdr x2
              replace a3 := cell_on hdr a3
              replace b3 := cell_on hdr b3
              clear hdr
              rw [← hw9]
              have p0 := ext_cell x0
              have p1 := ext_cell x2
              have p3 := ext_cell a3
              have r3 := ext_cell b3
              clear a0 a1' a2 a3 b0 b1 b2 b3 x0 x2
              refine wp_region_grow (by kernel_rfl) (by kernel_rfl) ?_
              repeat (go_big_quiet_step ((go_at_call 9; with_reducible exact grow_of (CS.out _))))
              refine wpQuiet_nil ?_
              intro w8 hb8
              have Hb8 : Hid (Below w5.heap.size w5 w8) := Hb9.out.trans (hb8.mono Hb9.out.size)
              clear p0 p1 p3 r3 hb8 CS
              go_wp2_with fail
              go_roundw
              case rel => exact ⟨j + 1, by omega, by go_num, Hb8.out⟩
              case measure => simp [intOf]; omega
        · obtain rfl : j = l.length := by omega
          clear hb
          go_wp2_with fail
          go_ret
          exact ⟨rfl, Hw5.out.trans (Hb.out.mono Hw5.out.size)⟩
end Go.Proofs.Ytgidichmphniaaa.sealBlind
