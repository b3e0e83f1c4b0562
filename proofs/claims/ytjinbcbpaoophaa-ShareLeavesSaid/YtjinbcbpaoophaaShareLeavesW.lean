/- ShareLeaves: the walk. -/
import Derived.Test.YtjinbcbpaoophaaShareLawC
import Derived.Test.YtjinbcbpaoophaaSameI
import Derived.Test.YtjinbcbpaoophaaApp
namespace Go.Proofs.Ytjinbcbpaoophaa.shareLeaves
open Go.ChangeShapes Go.WideShapes Go.ChangeAt Go.RowKit
set_option linter.unusedVariables false

theorem sum_bd (l : List Int) (c : Int) (h : ∀ x ∈ l, 0 ≤ x ∧ x ≤ c) : 0 ≤ l.sum ∧ l.sum ≤ c * l.length := by
  induction l with
  | nil => simp
  | cons a t ih =>
    have h1 := h a (by simp)
    have h2 := ih (fun x hx => h x (by simp [hx]))
    simp only [List.sum_cons, List.length_cons]
    rw [Int.natCast_add, Int.mul_add]
    simp only [Int.natCast_one, Int.mul_one]
    omega
theorem elem_le_sum : ∀ (l : List Int) (i : Nat) (h : i < l.length), (∀ x ∈ l, 0 ≤ x) → 0 ≤ l[i] ∧ l[i] ≤ l.sum
  | a :: t, 0, h, h0 => by
    have h1 : 0 ≤ t.sum := by
      have : ∀ l : List Int, (∀ x ∈ l, 0 ≤ x) → 0 ≤ l.sum := fun l => by
        induction l with
        | nil => intro _; exact Int.le_refl _
        | cons a t ih =>
          intro h
          have h1 := h a (by simp)
          have h2 := ih (fun x hx => h x (by simp [hx]))
          simp only [List.sum_cons]; omega
      exact this t (fun x hx => h0 x (by simp [hx]))
    have := h0 a (by simp)
    simp only [List.getElem_cons_zero, List.sum_cons]; omega
  | a :: t, i + 1, h, h0 => by
    have ih := elem_le_sum t i (by simpa using h) (fun x hx => h0 x (by simp [hx]))
    have := h0 a (by simp)
    simp only [List.getElem_cons_succ, List.sum_cons]; omega
theorem erase_parts (l : List Int) (i : Nat) (h : i < l.length) : (l.drop 0).take (i - 0) ++ (l.drop (i + 1)).take (l.length - (i + 1)) = l.eraseIdx i := by
  rw [List.eraseIdx_eq_take_drop_succ, List.drop_zero, Nat.sub_zero, List.take_of_length_le (l := l.drop (i + 1)) (by simp)]
theorem leaves_has {w : World} {base : Nat} {v : Value} {A E : List Int} {i n : Nat} (hi : i < A.length) (hE : E = A.eraseIdx i) (hn : n = 0 + i + (A.length - (i + 1))) (h : w.ownsRow base 3 1 v n (([] ++ ints ((A.drop 0).take i)) ++ ints ((A.drop (i + 1)).take (A.length - (i + 1))))) :
    Has w 1 v E.length (ints E) := by
  have e2 : ([] ++ ints ((A.drop 0).take i)) ++ ints ((A.drop (i + 1)).take (A.length - (i + 1))) = ints E := by
    have := erase_parts A i hi
    rw [Nat.sub_zero] at this
    rw [hE, ← this]; simp [ints]
  have e1 : n = E.length := by rw [hE, List.length_eraseIdx]; split <;> omega
  rw [e2, e1] at h
  exact Has.of_owns h
theorem csame_refl (v1 v2 : Value) (E : List Int) (w : World) (h1 : Has w 1 v1 E.length (ints E)) (h2 : Has w 1 v2 E.length (ints E)) :
    Calls Try.prog 32 #[v1, v2] w fun e w' => e = .returned (.bool true) ∧ Below w.heap.size w w' :=
  (csameInts v1 v2 E E w h1 h2).mono fun _ _ h => by simpa using h
set_option maxRecDepth 100000 in
set_option maxHeartbeats 4000000 in
theorem walk (w : World) (a0 : Int) (v1 : Value) (z : List Int) (A1 : Has w 1 v1 z.length (ints z) ∧ ∀ x ∈ z, -9223372036854775808 ≤ x ∧ x ≤ 9223372036854775807) (a2 : Int)
    (w0 : (Lit.int .i64 a0).wf = true) (w2 : (Lit.int .i64 a2).wf = true) :
    Calls Try.prog 15 #[.int .i64 a0, v1, .int .i64 a2] w fun e w' => e = .returned (.bool true) ∧ Below w.heap.size w w' := by
  have hA1 := A1.1
  obtain ⟨ws, hws⟩ : ∃ ws, ws = wantsOf z ++ [8] := ⟨_, rfl⟩
  have hl10 := wantsOf_le z
  have hwl : ws.length = (wantsOf z).length + 1 := by rw [hws]; simp
  have hok : ∀ x ∈ ws, 0 ≤ x ∧ x ≤ 39 := fun x hx => by
    rw [hws] at hx
    rcases List.mem_append.1 hx with h | h
    · exact wantsOf_ok z x h
    · simp at h; omega
  have hok' : ∀ x ∈ ws, 0 ≤ x ∧ x ≤ 1048576 := fun x hx => by have := hok x hx; omega
  have Hok := Lib.hid hok
  have Hok' := Lib.hid hok'
  have Hws := Lib.hid hws
  have Hwl := Lib.hid hwl
  have hlen : ws.length ≤ 11 := by omega
  have hlen1 : 1 ≤ ws.length := by omega
  obtain ⟨p0, p1⟩ := pick_bd a0 200 (by omega)
  obtain ⟨r0, r1⟩ := pick_bd a2 (ws.length : Int) (by omega)
  have P0 := Lib.hid fun w => picked a0 200 (by omega) (by omega) w
  have P2 := Lib.hid fun w => picked a2 (ws.length : Int) (by omega) (by omega) w
  generalize pick a0 200 = n at *
  generalize pick a2 (ws.length : Int) = i' at *
  obtain ⟨i, rfl⟩ := Int.eq_ofNat_of_zero_le r0
  have hi : i < ws.length := by omega
  clear hok hok' hws hwl w0 w2 A1 r0 r1
  go_enter Try.func15, Try.ntmps15
  go_wp2_with fail
  refine (cwantsOf v1 z w hA1).mono ?_
  rintro e w1 ⟨vw, rfl, hown, hb1⟩
  have Hown := Lib.hid hown
  have Hb1 := Lib.hid hb1
  have hsz := hb1.size
  clear hown hb1
  go_wp2_with (at_builtin; refine wp_app1 (w0 := w1) 29 3 1 8 _ elInt Try.underlying29 w.heap.size _ _ _ Hown.out (by repeat (first | exact Below.refl _ _ | refine Below.drew ?_ | refine Below.alloc ?_ (by first | (simp; done) | (simp; omega)) _ | refine Below.setCell ?_ (by first | (simp; done) | (simp; omega)) _)) [.int .i64 8] rfl _ _ rfl rfl rfl (by first | exact heap_alloc_new _ _ | (simp only [heap_drew, heap_drewN]; exact heap_alloc_new _ _)) (by simp) rfl rfl (by omega) (by omega) hsz ?_; intro v3 w3 hown3 hgrow3 hb3)
  rw [ints_snoc, ← Hws.out, ← Hwl.out] at hown3
  obtain ⟨g, capw, rfl, hg0, hg1, hgf, hgc⟩ := owns_some hown3 (by omega)
  have Hw := Lib.hid (Has.of_owns hown3)
  have Hb3 := Lib.hid (Hb1.out.trans hb3)
  clear Hown hown3 hgrow3 hb3 Hb1 hsz hgf hgc hg0
  go_wp2_with fail
  with_reducible refine (P0.out _).mono ?_
  rintro e w' ⟨rfl, rfl⟩
  go_wp2_with fail
  with_reducible refine (P2.out _).mono ?_
  rintro e w' ⟨rfl, rfl⟩
  go_wp2_with fail
  refine (cshares _ ws n w3 Hw.out Hok'.out (by omega) p0 (by omega)).mono ?_
  rintro e w4 ⟨va, L, rfl, hL, hown, hb4⟩
  obtain ⟨ga, capa, rfl, hga0, hga1, hgaf, hgac⟩ := owns_some hown (by omega)
  have HL := Lib.hid hL
  have Ha := Lib.hid (Has.of_owns hown)
  have Hw4 := Lib.hid (Hw.out.below hb4)
  have Hb4 : Hid (Below w.heap.size w w4) := Hb3.out.trans (hb4.mono Hb3.out.size)
  have ha1 : i < (give L (n - least ws L) ws).length := by rw [give_length]; exact hi
  have hga := give_at L hL.1 (n - least ws L) ws i hi ha1 (Hok.out _ (List.getElem_mem hi)).1
  have hsumA := share_sum Hok'.out hL
  have HLeave := Lib.hid (fun M => share_leaves (M := M) i hi hL ha1)
  have HLA := Lib.hid (give_length L (n - least ws L) ws)
  have hle := elem_le_sum (give L (n - least ws L) ws) i ha1 (fun x hx => by
    obtain ⟨j, hj, rfl⟩ := List.mem_iff_getElem.1 hx
    have hj' : j < ws.length := by rw [give_length] at hj; exact hj
    exact (give_at L hL.1 (n - least ws L) ws j hj' hj (Hok.out _ (List.getElem_mem hj')).1).2.2)
  have ca := hgac i _ (ints_get _ i ha1)
  generalize give L (n - least ws L) ws = A at *
  obtain ⟨y, hy⟩ : ∃ y, A[i] = y := ⟨_, rfl⟩
  rw [hy] at ca hga hle HLeave
  have Hsm := Lib.hid hsumA
  obtain ⟨y0, y1⟩ : 0 ≤ y ∧ y ≤ n := by omega
  have d1 : decide (n < y) = false := by simp; omega
  have hcapw : capw ≤ maxLen := by
    obtain ⟨_, _, _, he, _, h, _⟩ := Hw4.out
    simp only [Value.slice.injEq] at he
    obtain ⟨_, _, rfl⟩ := he
    exact h
  have hcapa : capa ≤ maxLen := by
    obtain ⟨_, _, _, he, _, h, _⟩ := Ha.out
    simp only [Value.slice.injEq] at he
    obtain ⟨_, _, rfl⟩ := he
    exact h
  have hncw : ws.length ≤ capw := by
    obtain ⟨_, _, _, he, h, _, _⟩ := Hw4.out
    simp only [Value.slice.injEq] at he
    obtain ⟨_, _, rfl⟩ := he
    exact h
  have hnca : ws.length ≤ capa := by
    obtain ⟨_, _, _, he, h, _, _⟩ := Ha.out
    simp only [Value.slice.injEq] at he
    obtain ⟨_, _, rfl⟩ := he
    exact h
  unfold maxLen at hcapw hcapa
  have Hy := Lib.hid hy
  clear hL hown hb4 hgaf hgac hsumA hle hga hy Hw Hb3
  go_wp2_with fail
  have b1 : (0 : Int) ≤ (i : Int) := by omega
  have b2 : (i : Int) ≤ (capw : Int) := by omega
  have b3 : (i : Int) + 1 ≤ (ws.length : Int) := by omega
  have b4 : (ws.length : Int) ≤ (capw : Int) := by omega
  have b5 : (0 : Int) ≤ (i : Int) + 1 := by omega
  have b6 : IntKind.i64.wrap ((i : Int) + 1) = (i : Int) + 1 := IntWalk.i64_in _ (by omega)
  go_region_held3 (fun _ => True) (trivial) ((first | (refine step_appN (w0 := w4) (wanted_of_none (by rfl)) 29 3 1 8 _ elInt Try.underlying29 w4.heap.size (.slice none 0 0) 0 [] (World.ownsRow_nil _ _ _ _) (by repeat (first | exact Below.refl _ _ | refine Below.drew ?_ | refine Below.alloc ?_ (by first | (simp; done) | (simp; omega)) _ | refine Below.setCell ?_ (by first | (simp; done) | (simp; omega)) _)) _ i (ints ((ws.drop 0).take i)) (Has.cut (Hw4.out.below (by repeat (first | exact Below.refl _ _ | refine Below.drew ?_ | refine Below.alloc ?_ (by first | (simp; done) | (simp; omega)) _ | refine Below.setCell ?_ (by first | (simp; done) | (simp; omega)) _))) 0 i capw 0 rfl (by omega) (by omega) (by unfold maxLen; omega)) _ _ (by rfl) (by rfl) (by rfl) (ints_one _) (by omega) (by unfold maxLen; omega) (Nat.le_refl _) ?_; intro v5 w5 hown5 hgrow5 hb5) | (refine step_appN (w0 := w5) (wanted_of_none (by rfl)) 29 3 1 8 _ elInt Try.underlying29 w4.heap.size v5 (0 + i) _ hown5 (Below.refl _ _) _ (ws.length - (i + 1)) (ints ((ws.drop (i + 1)).take (ws.length - (i + 1)))) (Has.cutEnd (Hw4.out.below hb5) (i + 1) (by omega)) _ _ (by rfl) (by rfl) (by show Value.slice _ _ _ = _; first | rfl | simp) (ints_one _) (by omega) (by unfold maxLen; omega) hb5.size ?_; intro v6 w6 hown6 hgrow6 hb6)))
  generalize (if capw = i + 1 then some (⟨g, 0, none⟩ : Addr) else some ⟨g, i + 1, none⟩) = qq
  obtain ⟨rest, hrest⟩ : ∃ rest, rest = ws.eraseIdx i := ⟨_, rfl⟩
  have hrl : rest.length + 1 = ws.length := by rw [hrest, List.length_eraseIdx]; split <;> omega
  have hown7 : w6.ownsRow w4.heap.size 3 1 v6 rest.length (ints rest) := by
    have e1 : 0 + i + (ws.length - (i + 1)) = rest.length := by omega
    have e2 : ([] ++ ints ((ws.drop 0).take i)) ++ ints ((ws.drop (i + 1)).take (ws.length - (i + 1))) = ints rest := by
      have := erase_parts ws i hi
      rw [Nat.sub_zero] at this
      rw [hrest, ← this]; simp [ints]
    rw [← e1, ← e2]; exact hown6
  have Hr := Lib.hid (Has.of_owns hown7)
  obtain ⟨ar, capr, rfl⟩ := owns_slice hown7
  have hb46 : Below w4.heap.size w4 w6 := hb5.trans hb6
  have ca6 := cell_on hb46 ca
  have Ha6 := Lib.hid (Ha.out.below hb46)
  have Hb6 : Hid (Below w.heap.size w w6) := Hb4.out.trans (hb46.mono Hb4.out.size)
  have Hrok : Hid (∀ x ∈ rest, 0 ≤ x ∧ x ≤ 1048576) := fun x hx => Hok'.out x (by rw [hrest] at hx; exact List.mem_of_mem_eraseIdx hx)
  rw [← hrest] at HLeave
  have hcapa' : capa ≤ maxLen := by unfold maxLen; omega
  clear hown5 hown6 hown7 hgrow5 hgrow6 hb5 hb6 hb46 ca Ha Hb4 Hw4 b1 b2 b3 b4 b5 b6 hrest d1 hcapw hncw
  go_wp2_with fail
  refine (cshares _ rest (n - y) w6 Hr.out Hrok.out (by omega) (by omega) (by omega)).mono ?_
  rintro e w7 ⟨vb, M, rfl, hM, hown, hb7⟩
  have HB := HLeave.out M hM
  rw [HB] at hown
  obtain ⟨ab, capb, rfl⟩ := owns_slice hown
  have Hbv := Lib.hid (Has.of_owns hown)
  have ca7 := cell_on hb7 ca6
  have Ha7 := Lib.hid (Ha6.out.below hb7)
  have Hb7 : Hid (Below w.heap.size w w7) := Hb6.out.trans (hb7.mono Hb6.out.size)
  clear hown hb7 ca6 Ha6 Hb6 HLeave HB hM Hr Hrok
  go_wp2_with fail
  refine (cshares _ [2] 3 _ (Has.of_owns (owns_block (base := w7.heap.size) (n := 1) (sz := 1) (cs := [.int .i64 2]) (by first | exact heap_alloc_new _ _ | (simp only [heap_drew, heap_drewN]; exact heap_alloc_new _ _)) (by simp) rfl (by unfold maxLen; omega) (by simp))) (by simp) (by simp) (by omega) (by omega)).mono ?_
  rintro e w8 ⟨vo, N, rfl, hN, hown, hb8⟩
  have hs1 := share_sum (ws := [2]) (t := 3) (by simp) hN
  have hl1 := give_length N (3 - least [2] N) [2]
  generalize give N (3 - least [2] N) [2] = O at *
  obtain ⟨u, rfl⟩ : ∃ u, O = [u] := by
    match O, hl1 with
    | [u], _ => exact ⟨u, rfl⟩
  obtain rfl : u = 2 := by
    have : u = min 3 2 := by simpa using hs1
    omega
  obtain ⟨go, capo, rfl, _, _, _, hoc⟩ := owns_some hown (by simp)
  have co := hoc 0 _ (ints_get [2] 0 (by simp))
  have hb78 : Below w7.heap.size w7 w8 := Below.trans ((Below.refl _ _).alloc (Nat.le_refl _) _) (hb8.mono (by simp))
  have Ha8 := Lib.hid (Ha7.out.below hb78)
  have Hbv8 := Lib.hid (Hbv.out.below hb78)
  have Hb8 : Hid (Below w.heap.size w w8) := Hb7.out.trans (hb78.mono Hb7.out.size)
  clear hown hoc hb8 hb78 Ha7 Hbv Hb7 ca7 hN hs1 hl1
  go_wp2_with fail
  obtain ⟨E, hE⟩ : ∃ E, E = A.eraseIdx i := ⟨_, rfl⟩
  have hAl : A.length = ws.length := HLA.out
  have hEl : rest.length = E.length := by rw [hE, List.length_eraseIdx]; split <;> omega
  have HA8 : Hid (Has w8 1 (.slice (some ⟨ga, 0, none⟩) ws.length capa) A.length (ints A)) := by rw [hAl]; exact Ha8.out
  have HB8 : Hid (Has w8 1 (.slice ab rest.length capb) E.length (ints E)) := by rw [← hEl, hE]; exact Hbv8.out
  have HE := Lib.hid hE
  have HEl := Lib.hid hEl
  have b1 : (0 : Int) ≤ (i : Int) := by omega
  have b2 : (i : Int) ≤ (capa : Int) := by omega
  have b3 : (i : Int) + 1 ≤ (ws.length : Int) := by omega
  have b4 : (ws.length : Int) ≤ (capa : Int) := by omega
  have b5 : (0 : Int) ≤ (i : Int) + 1 := by omega
  have b6 : IntKind.i64.wrap ((i : Int) + 1) = (i : Int) + 1 := IntWalk.i64_in _ (by omega)
  clear Ha8 Hbv8 hE hEl hAl
  go_region_held3 (fun w' => w'.cell? ⟨go, 0, none⟩ = some (.int .i64 2)) (first | go_keep | exact cell_on hb9 co | exact cell_on (hb9.trans hb10) co | exact cell_on ((hb9.trans hb10).trans (hb11.mono (hb9.trans hb10).size)) co) ((first | (refine step_appN (w0 := w8) (by first | rfl | simp [Region.wanted]) 29 3 1 8 _ elInt Try.underlying29 w8.heap.size (.slice none 0 0) 0 [] (World.ownsRow_nil _ _ _ _) (by repeat (first | exact Below.refl _ _ | refine Below.drew ?_ | refine Below.alloc ?_ (by first | (simp; done) | (simp; omega)) _ | refine Below.setCell ?_ (by first | (simp; done) | (simp; omega)) _)) _ i (ints ((A.drop 0).take i)) (Has.cut (HA8.out.below (by repeat (first | exact Below.refl _ _ | refine Below.drew ?_ | refine Below.alloc ?_ (by first | (simp; done) | (simp; omega)) _ | refine Below.setCell ?_ (by first | (simp; done) | (simp; omega)) _))) 0 i capa 0 rfl (by have := HLA.out; omega) (by omega) (by unfold maxLen; omega)) _ _ (by rfl) (by rfl) (by rfl) (ints_one _) (by omega) (by unfold maxLen; omega) (Nat.le_refl _) ?_; intro v9 w9 hown9 hgrow9 hb9) | (refine step_appN (w0 := w9) (by first | rfl | simp [Region.wanted]) 29 3 1 8 _ elInt Try.underlying29 w8.heap.size v9 (0 + i) _ hown9 (Below.refl _ _) _ (A.length - (i + 1)) (ints ((A.drop (i + 1)).take (A.length - (i + 1)))) (Has.cutEnd (HA8.out.below hb9) (i + 1) (by have := HLA.out; omega)) _ _ (by rfl) (by rfl) (by have := HLA.out; show Value.slice _ _ _ = _; simp [HLA.out]) (ints_one _) (by have := HLA.out; omega) (by have := HLA.out; unfold maxLen; omega) hb9.size ?_; intro v10 w10 hown10 hgrow10 hb10; generalize (if capa = i + 1 then some (⟨ga, 0, none⟩ : Addr) else some ⟨ga, i + 1, none⟩) = qq) | (go_at_call 32; refine (csame_refl _ _ E _ (HB8.out.below (hb9.trans hb10)) (leaves_has (by have := HLA.out; omega) HE.out rfl hown10)).mono ?_; rintro e w11 ⟨rfl, hb11⟩) | fail))
  go_wp2_with fail
  go_ret
  exact ⟨rfl, Hb8.out.trans (((hb9.trans hb10).trans (hb11.mono (hb9.trans hb10).size)).mono Hb8.out.size)⟩
end Go.Proofs.Ytjinbcbpaoophaa.shareLeaves
