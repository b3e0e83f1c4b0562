/- NewerOrder: the walk. -/
import Derived.Test.YtjinbcbpaoophaaRegB
namespace Go.Proofs.Ytjinbcbpaoophaa.newerOrder
open Go.ChangeShapes Go.WideShapes Go.ChangeAt Go.RowKit
set_option linter.unusedVariables false

def eqb (a b : Ent) : Bool := a.k == b.k && a.v == b.v && a.t == b.t && a.h == b.h && a.g == b.g
theorem newer_iff (a b : Ent) : newer a b = true ↔ (b.t < a.t ∨ (a.t = b.t ∧ (b.h < a.h ∨ (a.h = b.h ∧ (flagI a.g < flagI b.g ∨ (flagI a.g = flagI b.g ∧ b.v < a.v)))))) := by
  simp only [newer, orI, cmpI]
  repeat' split
  all_goals first | omega | (simp_all; try omega)
theorem flag_eq (a b : Bool) : flagI a = flagI b ↔ a = b := by cases a <;> cases b <;> simp [flagI]
theorem newer_irrefl (a : Ent) : newer a a = false := by
  rw [Bool.eq_false_iff, ne_eq, newer_iff]; omega
theorem newer_asymm (a b : Ent) (h : newer a b = true) : newer b a = false := by
  rw [Bool.eq_false_iff, ne_eq, newer_iff]; rw [newer_iff] at h; omega
theorem newer_trans (a b c : Ent) (h : newer a b = true) (k : newer b c = true) : newer a c = true := by
  rw [newer_iff] at *; omega
theorem newer_total (a b : Ent) (hk : a.k = b.k) (h1 : newer a b = false) (h2 : newer b a = false) : eqb a b = true := by
  rw [Bool.eq_false_iff, ne_eq, newer_iff] at h1 h2
  have hg := flag_eq a.g b.g
  simp only [eqb, Bool.and_eq_true, beq_iff_eq]
  refine ⟨⟨⟨⟨hk, by omega⟩, by omega⟩, by omega⟩, hg.1 (by omega)⟩
theorem eqb_newer (a b : Ent) (h : newer a b = true) : eqb a b = false := by
  rw [newer_iff] at h
  have hg := flag_eq a.g b.g
  rw [Bool.eq_false_iff]
  simp only [eqb, Bool.and_eq_true, beq_iff_eq, ne_eq]
  intro ⟨⟨⟨⟨h1, h2⟩, h3⟩, h4⟩, h5⟩
  have := hg.2 h5
  omega
theorem eqb_newer' (a b : Ent) (h : newer b a = true) : eqb a b = false := by
  have := eqb_newer b a h
  rw [Bool.eq_false_iff] at *
  simp only [eqb, Bool.and_eq_true, beq_iff_eq, ne_eq] at *
  intro ⟨⟨⟨⟨h1, h2⟩, h3⟩, h4⟩, h5⟩
  exact this ⟨⟨⟨⟨h1.symm, h2.symm⟩, h3.symm⟩, h4.symm⟩, h5.symm⟩
theorem eqb_eq (a b : Ent) (h : eqb a b = true) : a = b := by
  simp only [eqb, Bool.and_eq_true, beq_iff_eq] at h
  obtain ⟨⟨⟨⟨h1, h2⟩, h3⟩, h4⟩, h5⟩ := h
  cases a; cases b; simp_all
/-- Three entries under one key: what of them is newer than what. -/
theorem cases_of (a b c : Ent) (hk : a.k = b.k) (hk' : b.k = c.k) : ∃ ab ba bc ac : Bool, newer a b = ab ∧ newer b a = ba ∧ newer b c = bc ∧ newer a c = ac ∧ eqb a b = (!(ab || ba)) ∧ (ab && ba) = false ∧ ((ab && bc) = true → ac = true) := by
  refine ⟨_, _, _, _, rfl, rfl, rfl, rfl, ?_, ?_, ?_⟩
  · cases h1 : newer a b
    · cases h2 : newer b a
      · exact newer_total a b hk h1 h2
      · exact eqb_newer' a b h2
    · rw [eqb_newer a b h1]; rfl
  · cases h1 : newer a b
    · rfl
    · rw [newer_asymm a b h1]; rfl
  · intro h
    simp only [Bool.and_eq_true] at h
    exact newer_trans a b c h.1 h.2
theorem neq_ent (a b : Ent) (X : World) : (binOp .neq 44 a.val b.val).run Try.prog X = .ok (.bool (!(eqb a b))) X := by
  obtain ⟨k1, v1, t1, h1, g1⟩ := a
  obtain ⟨k2, v2, t2, h2, g2⟩ := b
  have hp : Try.prog.stoodInHeld 44 = false := by kernel_rfl
  have hf : Try.prog.underlying 44 = some (.struct (Try.prog.fieldsOf 44)) := by kernel_rfl
  simp only [binOp, Ent.val]
  simp only [Op.equal, Op.maxDepth, Sem.run_bind]
  rw [run_equalIn_struct _ _ _ _ _ hf hp]
  have u1 := Try.underlying3
  have u2 := Try.underlying4
  simp [go_sem, Try.underlying44, part, eqb]
  repeat' split
  all_goals simp_all
set_option maxRecDepth 100000 in
set_option maxHeartbeats 4000000 in
theorem inner (w : World) (l m n : Ent) (k v1 t1 h1 v2 t2 h2 k2 v3 t3 h3 k3 : Int) (g1 g2 g3 : Bool) (e1 : EntPick l = ⟨k, v1, t1, h1, g1⟩) (e2 : EntPick m = ⟨k2, v2, t2, h2, g2⟩) (e3 : EntPick n = ⟨k3, v3, t3, h3, g3⟩) :
    Calls Try.prog 9 #[l.val, m.val, n.val] w fun e w' => e = .returned (.bool true) ∧ Below w.heap.size w w' := by
  have H1 := Lib.hid (fun X => e1 ▸ centryOf l X)
  have H2 := Lib.hid (fun X => e2 ▸ centryOf m X)
  have H3 := Lib.hid (fun X => e3 ▸ centryOf n X)
  have N0 := Lib.hid (fun X => show Calls Try.prog 28 #[.agg #[.int .i64 0, .int .i64 0, .int .i64 1, .int .i64 0, .bool false], .agg #[.int .i64 0, .int .i64 0, .int .i64 0, .int .i64 0, .bool false]] X fun e w' => e = .returned (.bool true) ∧ Below X.heap.size X w' from cnewer ⟨0, 0, 1, 0, false⟩ ⟨0, 0, 0, 0, false⟩ X)
  have Naa := Lib.hid (fun X => newer_irrefl ⟨k, v1, t1, h1, g1⟩ ▸ cnewer ⟨k, v1, t1, h1, g1⟩ ⟨k, v1, t1, h1, g1⟩ X)
  obtain ⟨ab, ba, bc, ac, f1, f2, f3, f4, f5, f6, f7⟩ := cases_of ⟨k, v1, t1, h1, g1⟩ ⟨k, v2, t2, h2, g2⟩ ⟨k, v3, t3, h3, g3⟩ rfl rfl
  have Nab := Lib.hid (fun X => f1 ▸ cnewer ⟨k, v1, t1, h1, g1⟩ ⟨k, v2, t2, h2, g2⟩ X)
  have Nba := Lib.hid (fun X => f2 ▸ cnewer ⟨k, v2, t2, h2, g2⟩ ⟨k, v1, t1, h1, g1⟩ X)
  have Nbc := Lib.hid (fun X => f3 ▸ cnewer ⟨k, v2, t2, h2, g2⟩ ⟨k, v3, t3, h3, g3⟩ X)
  have Nac := Lib.hid (fun X => f4 ▸ cnewer ⟨k, v1, t1, h1, g1⟩ ⟨k, v3, t3, h3, g3⟩ X)
  have hq := fun X => neq_ent ⟨k, v1, t1, h1, g1⟩ ⟨k, v2, t2, h2, g2⟩ X
  rw [f5] at hq
  clear e1 e2 e3 f1 f2 f3 f4 f5
  simp only [Ent.val] at *
  go_enter Try.func9, Try.ntmps9
  go_wp2_with fail
  refine (H1.out _).mono ?_
  rintro e w1 ⟨rfl, hb1⟩
  have Bm := Lib.hid (((Box.new (w.alloc (.cells #[.int .i64 l.k, .int .i64 l.v, .int .i64 l.t, .int .i64 l.h, .bool l.g] 43)) m.k m.v m.t m.h m.g 43).alloc (.cells #[.int .i64 n.k, .int .i64 n.v, .int .i64 n.t, .int .i64 n.h, .bool n.g] 43)).on hb1)
  have Bn := Lib.hid ((Box.new ((w.alloc (.cells #[.int .i64 l.k, .int .i64 l.v, .int .i64 l.t, .int .i64 l.h, .bool l.g] 43)).alloc (.cells #[.int .i64 m.k, .int .i64 m.v, .int .i64 m.t, .int .i64 m.h, .bool m.g] 43)) n.k n.v n.t n.h n.g 43).on hb1)
  have Hb1 : Hid (Below w.heap.size w w1) := (Below.trans (by repeat (first | exact Below.refl _ _ | refine Below.drew ?_ | refine Below.alloc ?_ (by first | (simp; done) | (simp; omega)) _ | refine Below.setCell ?_ (by first | (simp; done) | (simp; omega)) _)) (hb1.mono (by simp; omega)))
  simp only [World.size_alloc] at Bm Bn
  clear hb1
  have c10 := Bm.out.c0; have c11 := Bm.out.c1; have c12 := Bm.out.c2; have c13 := Bm.out.c3; have c14 := Bm.out.c4
  have lt1 := Bm.out.lt
  have lt2 := Bn.out.lt
  go_wp2_with fail
  clear c10 c11 c12 c13 c14
  refine (H2.out _).mono ?_
  rintro e w2 ⟨rfl, hb2⟩
  have B1 := Lib.hid ((Box.new w1 k v1 t1 h1 g1 44).on hb2)
  have Bn2 := Lib.hid ((Bn.out.alloc _).on hb2)
  have Hb2 : Hid (Below w.heap.size w w2) := ((Hb1.out.alloc Hb1.out.size _).trans (hb2.mono (by have := Hb1.out.size; simp; omega)))
  clear hb2 Bn Bm lt1 lt2
  have c20 := Bn2.out.c0; have c21 := Bn2.out.c1; have c22 := Bn2.out.c2; have c23 := Bn2.out.c3; have c24 := Bn2.out.c4
  have lt1 := B1.out.lt
  have lt2 := Bn2.out.lt
  go_wp2_with fail
  clear c20 c21 c22 c23 c24
  refine (H3.out _).mono ?_
  rintro e w3 ⟨rfl, hb3⟩
  have B1' := Lib.hid ((B1.out.alloc _).on hb3)
  have B2 := Lib.hid ((Box.new w2 k2 v2 t2 h2 g2 44).on hb3)
  have Hb3 : Hid (Below w.heap.size w w3) := ((Hb2.out.alloc Hb2.out.size _).trans (hb3.mono (by have := Hb2.out.size; simp; omega)))
  have lt12 : w1.heap.size < w2.heap.size := B1.out.lt
  have lt23 : w2.heap.size < w3.heap.size := B2.out.lt
  have lt13 : w1.heap.size < w3.heap.size := by omega
  clear hb3 B1 Bn2 lt1 lt2
  have d10 := B1'.out.c0
  have d20 := B2.out.c0
  have f20 := B2.out.f 0
  go_wp2_with fail
  clear d10 d20 f20
  have Ba := Lib.hid ((B1'.out.set_other (by omega) (.int .i64 k) (b' := w2.heap.size) (o := 0)).alloc (.cells #[.int .i64 k, .int .i64 v3, .int .i64 t3, .int .i64 h3, .bool g3] 44))
  have Bb := Lib.hid ((B2.out.set0 k).alloc (.cells #[.int .i64 k, .int .i64 v3, .int .i64 t3, .int .i64 h3, .bool g3] 44))
  have Bc := Lib.hid (Box.new (w3.setCell ⟨w2.heap.size, 0, none⟩ (.int .i64 k)) k v3 t3 h3 g3 44)
  have hs0 := Hb3.out.size
  have Hby : Hid (Below w.heap.size w ((w3.setCell ⟨w2.heap.size, 0, none⟩ (.int .i64 k)).alloc (.cells #[.int .i64 k, .int .i64 v3, .int .i64 t3, .int .i64 h3, .bool g3] 44))) := (Hb3.out.setCell (by have := Hb2.out.size; exact this) _).alloc (by simp; omega) _
  refine (N0.out _).mono ?_
  rintro e w4 ⟨rfl, hb4⟩
  have Ba4 := Lib.hid (Ba.out.on hb4)
  have Bb4 := Lib.hid (Bb.out.on hb4)
  have Bc4 := Lib.hid (Bc.out.on hb4)
  have Hb4 : Hid (Below w.heap.size w w4) := Hby.out.trans (hb4.mono Hby.out.size)
  simp only [World.size_setCell] at Bc4
  clear hb4 Ba Bb Bc Hby B1' B2 Hb1 Hb2 Hb3 lt12 lt23 lt13 hs0
  generalize w1.heap.size = b7 at *
  generalize w2.heap.size = b8 at *
  generalize w3.heap.size = b9 at *
  have a0 := Ba4.out.c0; have a1 := Ba4.out.c1; have a2 := Ba4.out.c2; have a3 := Ba4.out.c3; have a4 := Ba4.out.c4
  go_wp2_with fail
  clear a0 a1 a2 a3 a4
  refine (Naa.out _).mono ?_
  rintro e w5 ⟨rfl, hb5⟩
  have Ba5 := Lib.hid (Ba4.out.on hb5)
  have Bb5 := Lib.hid (Bb4.out.on hb5)
  have Bc5 := Lib.hid (Bc4.out.on hb5)
  have Hb5 : Hid (Below w.heap.size w w5) := Hb4.out.trans (hb5.mono Hb4.out.size)
  clear hb5 Ba4 Bb4 Bc4 Hb4
  go_wp2_with fail
  revert f6 f7
  cases ab <;> cases ba <;> cases bc <;> cases ac
  all_goals
    intro f6 f7
    first
      | (exfalso; cases f6; done)
      | (exfalso; have := f7 rfl; cases this; done)
      | (clear f6 f7
         have a0 := ext_cell Ba5.out.c0; have a1 := ext_cell Ba5.out.c1; have a2 := ext_cell Ba5.out.c2; have a3 := ext_cell Ba5.out.c3; have a4 := ext_cell Ba5.out.c4; have b0 := ext_cell Bb5.out.c0; have b1 := ext_cell Bb5.out.c1; have b2 := ext_cell Bb5.out.c2; have b3 := ext_cell Bb5.out.c3; have b4 := ext_cell Bb5.out.c4
         refine wp_region_grow (by kernel_rfl) (by kernel_rfl) ?_
         repeat (go_big_quiet_step ((go_at_call 28; first | (with_reducible exact grow_of (Nab.out _)) | (with_reducible exact grow_of (Nba.out _)))))
         refine wpQuiet_nil ?_
         intro w6 hb6
         clear a0 a1 a2 a3 a4 b0 b1 b2 b3 b4
         have Ba6 := Lib.hid (Ba5.out.on hb6)
         have Bb6 := Lib.hid (Bb5.out.on hb6)
         have Bc6 := Lib.hid (Bc5.out.on hb6)
         have Hb6 : Hid (Below w.heap.size w w6) := Hb5.out.trans (hb6.mono Hb5.out.size)
         clear hb6
         go_upto_region 10 with (fail)
         have a0 := ext_cell Ba6.out.c0; have a1 := ext_cell Ba6.out.c1; have a2 := ext_cell Ba6.out.c2; have a3 := ext_cell Ba6.out.c3; have a4 := ext_cell Ba6.out.c4; have b0 := ext_cell Bb6.out.c0; have b1 := ext_cell Bb6.out.c1; have b2 := ext_cell Bb6.out.c2; have b3 := ext_cell Bb6.out.c3; have b4 := ext_cell Bb6.out.c4; have c0 := ext_cell Bc6.out.c0; have c1 := ext_cell Bc6.out.c1; have c2 := ext_cell Bc6.out.c2; have c3 := ext_cell Bc6.out.c3; have c4 := ext_cell Bc6.out.c4
         refine wp_region_seq ?_
         repeat (go_big_quiet_step ((go_at_call 28; first | (with_reducible exact grow_of (Nab.out _)) | (with_reducible exact grow_of (Nbc.out _)) | (with_reducible exact grow_of (Nac.out _)))))
         refine wpQuiet_nil ?_
         intro w7 hb7
         go_wp2
         go_ret
         exact ⟨rfl, Hb6.out.trans (hb7.mono Hb6.out.size)⟩)
theorem walk (w : World) (v0 : Value) (l : Ent) (A0 : v0 = l.val) (v1 : Value) (m : Ent) (A1 : v1 = m.val) (v2 : Value) (n : Ent) (A2 : v2 = n.val) :
    Calls Try.prog 9 #[v0, v1, v2] w fun e w' => e = .returned (.bool true) ∧ Below w.heap.size w w' := by
  subst A0 A1 A2
  exact inner w l m n _ _ _ _ _ _ _ _ _ _ _ _ _ _ _ rfl rfl rfl
end Go.Proofs.Ytjinbcbpaoophaa.newerOrder
