/- The pieces of a worker of crew.Splits. Written by tools/gen_crewB.py. -/
import Derived.Test.YtkodpijedinanaaCwZ
namespace Go.Proofs.Ytkodpijedinanaa.Sim
open Go Go.Conc Go.ChangeShapes Go.WideShapes Go.ChangeAt Go.RowKit
set_option linter.unusedVariables false
set_option linter.unusedSimpArgs false
noncomputable def c13 : Code := (Try.f13.body).getD .skip
set_option maxRecDepth 100000 in
set_option maxHeartbeats 4000000 in
theorem k0 {u4 u5 u6 u7 u8 u9 u10 u11 u12 u13 u14 u15 u16 u17 u18 u19 u20 u21 u22 : Value} {p2 p7 p3 p6 : Nat} {v0 v1 vi : Value} {i n : Nat} {zs : List Int} {us : List Value} {ws : List Int} (w : World) {z : Int} (h2 : w.cell? ⟨p2, 0, none⟩ = some v0) (h7 : w.cell? ⟨p7, 0, none⟩ = some (.int .i64 i)) (h3 : w.cell? ⟨p3, 0, none⟩ = some v1) (hi : i < n) (A0 : Has w 1 v0 n (ints zs)) (A1 : Has w 1 v1 n us) (hz : zs[i]? = some z) (hu : us[i]? = some vi) (Ai : Has w 1 vi ws.length (ints ws)) (hw : ∀ x ∈ ws, 0 ≤ x ∧ x ≤ 1048576) (hlen : ws.length ≤ 16) (hz0 : 0 ≤ z) (hz1 : z ≤ 1048576) (K : Act → World → Prop) (hK : ∀ a' w', (∃ (sv : Value) (L : Int), a' = ⟨#[.pointer (some ⟨p2, 0, none⟩), .pointer (some ⟨p7, 0, none⟩), .pointer (some ⟨p3, 0, none⟩), .pointer (some ⟨p6, 0, none⟩), sv, .int .i64 0, a'.tmps.getD 6 undef, a'.tmps.getD 7 undef, a'.tmps.getD 8 undef, a'.tmps.getD 9 undef, a'.tmps.getD 10 undef, a'.tmps.getD 11 undef, a'.tmps.getD 12 undef, a'.tmps.getD 13 undef, a'.tmps.getD 14 undef, a'.tmps.getD 15 undef, a'.tmps.getD 16 undef, a'.tmps.getD 17 undef, a'.tmps.getD 18 undef, a'.tmps.getD 19 undef, a'.tmps.getD 20 undef, a'.tmps.getD 21 undef, a'.tmps.getD 22 undef], []⟩ ∧ Lev z ws L ∧ w'.ownsRow w.heap.size 3 1 sv ws.length (ints (give L (z - least ws L) ws)) ∧ Kept w w') → K a' w') : (hd c13).wp Try.prog (Exit.then K fun _ _ _ => False) ⟨#[.pointer (some ⟨p2, 0, none⟩), .pointer (some ⟨p7, 0, none⟩), .pointer (some ⟨p3, 0, none⟩), .pointer (some ⟨p6, 0, none⟩), u4, u5, u6, u7, u8, u9, u10, u11, u12, u13, u14, u15, u16, u17, u18, u19, u20, u21, u22], []⟩ w := by
  have HK := Lib.hid hK
  clear hK
  conv => arg 2; whnf
  obtain ⟨hl0, a0, cap0, rfl, hn0, hm0, hc0⟩ := A0
  obtain ⟨hl1, a1, cap1, rfl, hn1, hm1, hc1⟩ := A1
  replace hc0 := hc0 (by rw [hl0.1]; omega)
  replace hc1 := hc1 (by rw [hl1.1]; omega)
  obtain ⟨b0, o0, rfl, hc0⟩ := hc0
  obtain ⟨b1, o1, rfl, hc1⟩ := hc1
  have hzi : (ints zs)[i]? = some (.int .i64 z) := by simp [ints, hz]
  have q0 := hc0 i _ hzi
  have q1 := hc1 i _ hu
  have hvi : ∃ a m c, vi = .slice a m c := by obtain ⟨_, a, c, h, _⟩ := Ai; exact ⟨_, _, _, h⟩
  have CS := Lib.hid (fun (X : World) (hX : X.heap = w.heap) => csplit vi ws z X (Ai.same (fun b o _ => by unfold World.cell?; rw [hX])) hw hlen hz0 hz1)
  obtain ⟨a, m, c, rfl⟩ := hvi
  clear hc0 hc1 hzi hl0 hl1 hu hz Ai hw
  unfold maxLen at hm0 hm1
  have F2 := Lib.hid h2
  have F7 := Lib.hid h7
  have F3 := Lib.hid h3
  have Q0 := Lib.hid q0
  have Q1 := Lib.hid q1
  go_region_held3 (fun Z => (Z.cell? ⟨p2, 0, none⟩ = some (.slice (some ⟨b0, o0, none⟩) n cap0) ∧ Z.cell? ⟨p7, 0, none⟩ = some (.int .i64 i) ∧ Z.cell? ⟨p3, 0, none⟩ = some (.slice (some ⟨b1, o1, none⟩) n cap1)) ∧ Z.cell? ⟨b0, o0 + i, none⟩ = some (.int .i64 z) ∧ Z.cell? ⟨b1, o1 + i, none⟩ = some (.slice a m c))
    (first | exact ⟨⟨F2.out, F7.out, F3.out⟩, Q0.out, Q1.out⟩ | exact ⟨⟨KB.out.cell F2.out, KB.out.cell F7.out, KB.out.cell F3.out⟩, KB.out.cell Q0.out, KB.out.cell Q1.out⟩ | (go_keep; done))
    ((go_at_call 14; refine (CS.out _ (by rfl)).mono ?_; rintro e w' ⟨sv, L, rfl, hL, hown, hb⟩; have KB : Hid (Kept w w') := ⟨hb.size, hb.block⟩; obtain ⟨a2, c2, rfl⟩ := owns_slice hown; have HL := Lib.hid hL; have HO := Lib.hid hown; clear hL hown hb))
  all_goals
    refine HK.out _ _ ?_
    repeat apply Exists.intro
    exact ⟨rfl, HL.out, HO.out, KB.out⟩
set_option maxRecDepth 100000 in
set_option maxHeartbeats 4000000 in
theorem k0' {main : Bool} {F Sh : Blk} {Ju : Blk → Goroutine → World → Prop} {RB : List Frame} {B : Frame} {kIt : List Item} {Own : Blk} {ρ : Ren} {A : Act} (hJ : Jud Try.prog main Sh Ju) (hB : B.kind ≠ .early) (hfn : B.fn = 13) {u4 u5 u6 u7 u8 u9 u10 u11 u12 u13 u14 u15 u16 u17 u18 u19 u20 u21 u22 : Value} {p2 p7 p3 p6 : Nat} {v0 v1 vi : Value} {i n : Nat} {zs : List Int} {us : List Value} {ws : List Int} {w : World} {z : Int} (h2 : w.cell? ⟨p2, 0, none⟩ = some v0) (h7 : w.cell? ⟨p7, 0, none⟩ = some (.int .i64 i)) (h3 : w.cell? ⟨p3, 0, none⟩ = some v1) (hi : i < n) (A0 : Has w 1 v0 n (ints zs)) (A1 : Has w 1 v1 n us) (hz : zs[i]? = some z) (hu : us[i]? = some vi) (Ai : Has w 1 vi ws.length (ints ws)) (hw : ∀ x ∈ ws, 0 ≤ x ∧ x ≤ 1048576) (hlen : ws.length ≤ 16) (hz0 : 0 ≤ z) (hz1 : z ≤ 1048576)
    (hNext : ∀ ρ' A' w' Own' (y6 y7 y8 y9 y10 y11 y12 y13 y14 y15 y16 y17 y18 y19 y20 y21 y22 : Value) (sv : Value) (L : Int), Ren.le ρ ρ' → (∀ b, Own b → Own' b) → Lev z ws L ∧ w'.ownsRow w.heap.size 3 1 sv ws.length (ints (give L (z - least ws L) ws)) ∧ Kept w w' → Pt Try.prog F Sh Ju RB B kIt Own' ρ' ⟨#[.pointer (some ⟨p2, 0, none⟩), .pointer (some ⟨p7, 0, none⟩), .pointer (some ⟨p3, 0, none⟩), .pointer (some ⟨p6, 0, none⟩), sv, .int .i64 0, y6, y7, y8, y9, y10, y11, y12, y13, y14, y15, y16, y17, y18, y19, y20, y21, y22], []⟩ A' w') :
    Pt Try.prog F Sh Ju RB B (.code (hd c13) :: kIt) Own ρ ⟨#[.pointer (some ⟨p2, 0, none⟩), .pointer (some ⟨p7, 0, none⟩), .pointer (some ⟨p3, 0, none⟩), .pointer (some ⟨p6, 0, none⟩), u4, u5, u6, u7, u8, u9, u10, u11, u12, u13, u14, u15, u16, u17, u18, u19, u20, u21, u22], []⟩ A w :=
  pt_piece fns_ok hJ (c := hd c13) (by kernel_rfl) (b := base 13) rfl hB hfn ⟨_, Try.func13, by kernel_rfl⟩ (Q := fun a' w' => ∃ (sv : Value) (L : Int), a' = ⟨#[.pointer (some ⟨p2, 0, none⟩), .pointer (some ⟨p7, 0, none⟩), .pointer (some ⟨p3, 0, none⟩), .pointer (some ⟨p6, 0, none⟩), sv, .int .i64 0, a'.tmps.getD 6 undef, a'.tmps.getD 7 undef, a'.tmps.getD 8 undef, a'.tmps.getD 9 undef, a'.tmps.getD 10 undef, a'.tmps.getD 11 undef, a'.tmps.getD 12 undef, a'.tmps.getD 13 undef, a'.tmps.getD 14 undef, a'.tmps.getD 15 undef, a'.tmps.getD 16 undef, a'.tmps.getD 17 undef, a'.tmps.getD 18 undef, a'.tmps.getD 19 undef, a'.tmps.getD 20 undef, a'.tmps.getD 21 undef, a'.tmps.getD 22 undef], []⟩ ∧ Lev z ws L ∧ w'.ownsRow w.heap.size 3 1 sv ws.length (ints (give L (z - least ws L) ws)) ∧ Kept w w')
    (fun τ d => k0 (lay w τ d) h2 h7 h3 hi A0 A1 hz hu Ai hw hlen hz0 hz1 _ fun _ _ h => h) (fun ρ' a' A' w' Own' hl ho ⟨τ, d, sv, L, e, hr⟩ => e.symm ▸ hNext ρ' A' w' Own' (a'.tmps.getD 6 undef) (a'.tmps.getD 7 undef) (a'.tmps.getD 8 undef) (a'.tmps.getD 9 undef) (a'.tmps.getD 10 undef) (a'.tmps.getD 11 undef) (a'.tmps.getD 12 undef) (a'.tmps.getD 13 undef) (a'.tmps.getD 14 undef) (a'.tmps.getD 15 undef) (a'.tmps.getD 16 undef) (a'.tmps.getD 17 undef) (a'.tmps.getD 18 undef) (a'.tmps.getD 19 undef) (a'.tmps.getD 20 undef) (a'.tmps.getD 21 undef) (a'.tmps.getD 22 undef) sv L hl ho hr)
end Go.Proofs.Ytkodpijedinanaa.Sim
