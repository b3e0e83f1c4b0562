/- The laws' sameViews. -/
import Derived.BigQuiet
import Derived.Test.YtjdedflfdlhkdaaGreatDoorSameTold
namespace Go.Proofs.YtjdedflfdlhkdaaGreatDoor
open Go.ChangeShapes Go.WideShapes Go.ChangeAt Go.RowKit
set_option linter.unusedVariables false
set_option linter.unusedSimpArgs false

theorem TldsH.rd {w : World} {out : Value} {l : List Tld} {sv fv rv : Nat → Value} (h : TldsH w out l sv fv rv) (k : Nat) (hk : k < l.length) : RdT w l[k] (sv k) (fv k) (rv k) := ⟨h.s k hk, h.f k hk, h.r k hk⟩
set_option maxRecDepth 100000 in
set_option maxHeartbeats 8000000 in
theorem csameViews {w : World} {o1 o2 : Value} {T : List Tld} {s1 f1 r1 s2 f2 r2 : Nat → Value} (h1 : TldsH w o1 T s1 f1 r1) (h2 : TldsH w o2 T s2 f2 r2) :
    Calls Tryz.prog 24 #[o1, o2] w fun e w' => e = .returned (.bool true) ∧ Below w.heap.size w w' := by
  have H1 := Lib.hid h1
  have H2 := Lib.hid h2
  obtain ⟨_, a1, c1, rfl, _, hm1, _⟩ := h1.row
  obtain ⟨_, a2, c2, rfl, _, hm2, _⟩ := h2.row
  unfold maxLen at hm1 hm2
  have hnn : ((T.length : Int) != (T.length : Int)) = false := by simp
  clear h1 h2
  go_enter Tryz.func24, Tryz.ntmps24
  go_wp2_with fail
  go_loopw [5] (fun i wr => ∃ k : Nat, k ≤ T.length ∧ i = .int .i64 k ∧ Hid (Below w.heap.size w wr)) (fun i _ => T.length - (intOf i).toNat)
  case atStart => exact ⟨0, by omega, rfl, Below.refl _ _⟩
  case round =>
    obtain ⟨k, hk, rfl, HB⟩ := hrel
    by_cases hlt : k < T.length
    · obtain ⟨g1, p1, cc1, he, -, -, hc1⟩ := H1.out.at k hlt
      simp only [Value.slice.injEq] at he
      obtain ⟨rfl, -, rfl⟩ := he
      obtain ⟨g2, p2, cc2, he, -, -, hc2⟩ := H2.out.at k hlt
      simp only [Value.slice.injEq] at he
      obtain ⟨rfl, -, rfl⟩ := he
      have CS : Hid (∀ X : Ext wr, Calls Tryz.prog 25 #[(T[k]'hlt).val (s1 k) (f1 k) (r1 k), (T[k]'hlt).val (s2 k) (f2 k) (r2 k)] X.1 fun e w' => e = .returned (.bool true) ∧ Below X.1.heap.size X.1 w') := fun X =>
        cSameTold (T[k]'hlt) ((H1.out.rd k hlt).on (HB.out.trans (X.2.mono HB.out.size))) ((H2.out.rd k hlt).on (HB.out.trans (X.2.mono HB.out.size)))
      have hltz : (k : Int) < (T.length : Int) := by omega
      have z : ∀ j u, j < 11 → ((T[k]'hlt).cells (s1 k) (f1 k) (r1 k))[j]? = some u → wr.cell? ⟨g1, p1 + k * 11 + j, none⟩ = some u := fun j u hj hu => cell_on HB.out (hc1 j u hj hu)
      have z' : ∀ j u, j < 11 → ((T[k]'hlt).cells (s2 k) (f2 k) (r2 k))[j]? = some u → wr.cell? ⟨g2, p2 + k * 11 + j, none⟩ = some u := fun j u hj hu => cell_on HB.out (hc2 j u hj hu)
      have fin : ∀ w8, Below wr.heap.size wr w8 → Hid (Below w.heap.size w w8) := fun w8 hb8 => HB.out.trans (hb8.mono HB.out.size)
      have Fin := Lib.hid fin
      have HLT := Lib.hid hlt
      clear fin hc1 hc2 hk
      generalize (T[k]'hlt) = t at *
      obtain ⟨tc, tw, ⟨kc, ki, kf, kh, ku⟩, tv, ts, tf, tr⟩ := t
      unfold Tld.val tldC at CS
      unfold Tld.cells tldC at z z'
      simp only at CS z z'
      have p0 := ext_cell (by have := z 0 _ (by omega) rfl; rwa [Nat.add_zero] at this)
      have p1' := ext_cell (z 1 _ (by omega) rfl)
      have p2' := ext_cell (z 2 _ (by omega) rfl)
      have p3 := ext_cell (z 3 _ (by omega) rfl)
      have p4 := ext_cell (z 4 _ (by omega) rfl)
      have p5 := ext_cell (z 5 _ (by omega) rfl)
      have p6 := ext_cell (z 6 _ (by omega) rfl)
      have p7 := ext_cell (z 7 _ (by omega) rfl)
      have p8 := ext_cell (z 8 _ (by omega) rfl)
      have p9 := ext_cell (z 9 _ (by omega) rfl)
      have p10 := ext_cell (z 10 _ (by omega) rfl)
      have q0 := ext_cell (by have := z' 0 _ (by omega) rfl; rwa [Nat.add_zero] at this)
      have q1 := ext_cell (z' 1 _ (by omega) rfl)
      have q2 := ext_cell (z' 2 _ (by omega) rfl)
      have q3 := ext_cell (z' 3 _ (by omega) rfl)
      have q4 := ext_cell (z' 4 _ (by omega) rfl)
      have q5 := ext_cell (z' 5 _ (by omega) rfl)
      have q6 := ext_cell (z' 6 _ (by omega) rfl)
      have q7 := ext_cell (z' 7 _ (by omega) rfl)
      have q8 := ext_cell (z' 8 _ (by omega) rfl)
      have q9 := ext_cell (z' 9 _ (by omega) rfl)
      have q10 := ext_cell (z' 10 _ (by omega) rfl)
      clear z z' hlt
      go_upto_region 6 with (fail)
      refine wp_region_grow (by kernel_rfl) (by kernel_rfl) ?_
      repeat (go_big_quiet_step ((go_at_call 25; with_reducible exact grow_of (CS.out _))))
      refine wpQuiet_nil ?_
      intro w8 hb8
      have HB8 := Fin.out _ hb8
      clear hb8 Fin CS p0 p1' p2' p3 p4 p5 p6 p7 p8 p9 p10 q0 q1 q2 q3 q4 q5 q6 q7 q8 q9 q10
      go_wp2_with fail
      go_roundw
      case rel => exact ⟨k + 1, HLT.out, by go_num, HB8⟩
      case measure => have := HLT.out; first | (simp [intOf]; done) | (simp [intOf]; omega)
    · obtain rfl : k = T.length := by omega
      go_wp2_with fail
      go_ret
      exact ⟨rfl, HB.out⟩
end Go.Proofs.YtjdedflfdlhkdaaGreatDoor
