/- Texts that the claim imports, laid together: MwG AllF SameE CrewV MrM MwH. No statement of their own. -/
import Derived.Test.YtkodpijedinanaaKaa
import Derived.Test.YtkodpijedinanaaKah
import Derived.Test.YtkodpijedinanaaKaj
import Derived.Test.YtkodpijedinanaaKak
import Derived.Test.YtkodpijedinanaaKao
namespace Go.Proofs.Ytkodpijedinanaa.Sim
open Go Go.Conc
set_option linter.unusedVariables false
set_option linter.unusedSimpArgs false

/-- All lists as one: two by two, as the rounds take them. -/
def allL (n : Nat) (ls : Nat → List Ent) : List Ent := if h : n ≤ 1 then (if n = 0 then [] else ls 0) else allL ((n + 1) / 2) (nextL n ls)
  termination_by n
  decreasing_by omega
theorem allL_one {n : Nat} (h : n ≤ 1) (ls : Nat → List Ent) : allL n ls = if n = 0 then [] else ls 0 := by rw [allL, dif_pos h]
theorem allL_more {n : Nat} (h : ¬ n ≤ 1) (ls : Nat → List Ent) : allL n ls = allL ((n + 1) / 2) (nextL n ls) := by rw [allL, dif_neg h]
section
variable {W00 : World} {lo : Nat} {Post : Value → World → Prop} {K : Blk} {W0 : World} {RB : List Frame} {kk : List Item}
set_option maxRecDepth 100000 in
set_option maxHeartbeats 16000000 in
/-- All rounds. -/
theorem rounds {bl : Nat} (hKs : ∀ b, K b → b < W0.heap.size) {L : List Ent}
    (hx : ∀ n cap rl va V ls n' Wg' Gr' Own' Rr' A Bd, n ≤ 1 → allL n ls = L → ROk lo bl n rl va Own' Rr' K → A.tmps.size = 55 → A.defers = [] → Sl A 1 (.pointer (some ⟨bl, 0, none⟩)) →
      Rt (MGo Try.prog W00 lo Post n' (fun _ => none) .ret Wg' Bd 0 (shR lo Gr')) RB (base 11) kk Own' A (RSt lo bl n cap va rl V ls Rr' K W0)) :
    ∀ n cap rl va V ls n' Wg' Gr' Own' Rr' A Bd, n ≤ 200 → (∀ j, j < n → SixL (ls j)) → allL n ls = L → ROk lo bl n rl va Own' Rr' K → A.tmps.size = 55 → A.defers = [] → Sl A 1 (.pointer (some ⟨bl, 0, none⟩)) →
      Rt (MGo Try.prog W00 lo Post n' (fun _ => none) .ret Wg' Bd 0 (shR lo Gr')) RB (base 11) (.code lpC :: .inLoop lpC :: .inBlock 1 :: kk) Own' A (RSt lo bl n cap va rl V ls Rr' K W0) := by
  have hB : (base 11).kind ≠ .early := by simp [base]
  intro n
  induction n using Nat.strongRecOn with
  | _ n ih =>
  intro cap rl va V ls n' Wg' Gr' Own' Rr' A Bd hn2 hsix hL hO hsz hdf s1
  have hJ := jud_mgo Try.prog W00 lo Post n' (fun _ => none) (tag := .ret) (by simp) Wg' Bd 0 (shR lo Gr')
  have hz : Stable Own' (shR lo Gr') (RSt lo bl n cap va rl V ls Rr' K W0) := fun W W1 hr z => z.rely hO (fun _ h => h) hr
  rw [show (Item.code lpC : Item) = _ from congrArg Item.code lpC_eq]
  refine rt_seq hJ hz ?_
  refine rt_seq hJ hz ?_
  rw [show q5 = .region 5 (regOps (q5)) false from by kernel_rfl]
  refine rt_region hJ hz ?_
  rw [show List.range (regOps (q5)).size = [0, 1, 2] from by kernel_rfl]
  obtain ⟨o, ho, hop, hg, hdst⟩ : ∃ o, (regOps (q5))[0]? = some o ∧ o.op = .load 34 (.tmp 1) ∧ o.guard = none ∧ o.dst = some 17 := ⟨((regOps (q5))[0]?).getD default, by kernel_rfl, by kernel_rfl, by kernel_rfl, by kernel_rfl⟩
  refine rt_val hJ hz hB ho hg (v := (.slice va n cap)) (fun W z => loadLL hop s1.eval z.cl) (fun e he => by simp at he; subst he; exact .cell _ _ (.inl hO.obl)) ?_
  rw [hdst]
  replace s1 := s1.ne (d := 17) (u := (.slice va n cap)) (by decide)
  have s17 : Sl (A.put (some 17) (.slice va n cap)) 17 (.slice va n cap) := Sl.same (by rw [hsz]; decide)
  replace hsz : (A.put (some 17) (.slice va n cap)).tmps.size = 55 := (put_size _ _ _).trans hsz
  replace hdf : (A.put (some 17) (.slice va n cap)).defers = [] := (put_defers _ _ _).trans hdf
  generalize A.put (some 17) (.slice va n cap) = A at *
  clear ho hop hg hdst
  obtain ⟨o, ho, hop, hg, hdst⟩ : ∃ o, (regOps (q5))[1]? = some o ∧ o.op = .call { callee := .builtin .len, args := #[.tmp 17], argTypes := #[34] } ∧ o.guard = none ∧ o.dst = some 18 := ⟨((regOps (q5))[1]?).getD default, by kernel_rfl, by kernel_rfl, by kernel_rfl, by kernel_rfl⟩
  refine rt_val hJ hz hB ho hg (v := (.int .i64 n)) (fun W z => lenLL hop s17.eval) (fun e he => by simp at he) ?_
  rw [hdst]
  replace s1 := s1.ne (d := 18) (u := (.int .i64 n)) (by decide)
  replace s17 := s17.ne (d := 18) (u := (.int .i64 n)) (by decide)
  have s18 : Sl (A.put (some 18) (.int .i64 n)) 18 (.int .i64 n) := Sl.same (by rw [hsz]; decide)
  replace hsz : (A.put (some 18) (.int .i64 n)).tmps.size = 55 := (put_size _ _ _).trans hsz
  replace hdf : (A.put (some 18) (.int .i64 n)).defers = [] := (put_defers _ _ _).trans hdf
  generalize A.put (some 18) (.int .i64 n) = A at *
  clear ho hop hg hdst
  obtain ⟨o, ho, hop, hg, hdst⟩ : ∃ o, (regOps (q5))[2]? = some o ∧ o.op = .binOp .gtr 3 (.tmp 18) (.const (.int .i64 1)) 3 ∧ o.guard = none ∧ o.dst = some 19 := ⟨((regOps (q5))[2]?).getD default, by kernel_rfl, by kernel_rfl, by kernel_rfl, by kernel_rfl⟩
  refine rt_val hJ hz hB ho hg (v := (.bool (decide ((n : Int) > 1)))) (fun W z => by have q := gtrI (w := W) hop s18.eval (m := 1) rfl; exact q) (fun e he => by simp at he) ?_
  rw [hdst]
  replace s1 := s1.ne (d := 19) (u := (.bool (decide ((n : Int) > 1)))) (by decide)
  replace s17 := s17.ne (d := 19) (u := (.bool (decide ((n : Int) > 1)))) (by decide)
  replace s18 := s18.ne (d := 19) (u := (.bool (decide ((n : Int) > 1)))) (by decide)
  have s19 : Sl (A.put (some 19) (.bool (decide ((n : Int) > 1)))) 19 (.bool (decide ((n : Int) > 1))) := Sl.same (by rw [hsz]; decide)
  replace hsz : (A.put (some 19) (.bool (decide ((n : Int) > 1)))).tmps.size = 55 := (put_size _ _ _).trans hsz
  replace hdf : (A.put (some 19) (.bool (decide ((n : Int) > 1)))).defers = [] := (put_defers _ _ _).trans hdf
  generalize A.put (some 19) (.bool (decide ((n : Int) > 1))) = A at *
  clear ho hop hg hdst
  refine rt_region_end hJ hz ?_
  refine rt_cond hJ hz s19.eval ?_
  by_cases h1 : n ≤ 1
  · rw [show decide ((n : Int) > 1) = false from by simp; omega]
    simp only [Bool.false_eq_true, if_false]
    refine rt_exit hJ hz (k' := kk) (by simp [exitTo]) ?_
    exact hx n cap rl va V ls n' Wg' Gr' Own' Rr' A Bd h1 hL hO hsz hdf s1
  · rw [show decide ((n : Int) > 1) = true from by simp; omega]
    simp only [if_true]
    refine rt_skip hJ hz (rt_block hJ hz ?_)
    refine round (by omega) hn2 (fun j h => ⟨(hsix j h).may, by have := (hsix j h).len; omega⟩) (fun i j hi hj => by have := ((hsix i hi).merge (hsix j hj)).len; omega) hO hKs (fun n'' Wg'' Gr'' Own'' Rr'' V' rl' A hO' hsz hdf s1 => ?_) hsz hdf s1
    have hJ := jud_mgo Try.prog W00 lo Post n'' (fun _ => none) (tag := .ret) (by simp) Wg'' 0 0 (shR lo Gr'')
    have hz : Stable Own'' (shR lo Gr'') (RSt lo bl ((n + 1) / 2) ((n + 1) / 2) (some ⟨rl', 0, none⟩) rl' V' (nextL n ls) Rr'' K W0) := fun W W1 hr z => z.rely hO' (fun _ h => h) hr
    refine rt_inLoop hJ hz ?_
    refine ih _ (by omega) _ _ _ _ _ _ _ _ _ _ _ _ (by omega) (fun j hj => ?_) (by rw [← allL_more h1]; exact hL) hO' hsz hdf s1
    unfold nextL
    split
    · exact hsix _ (by omega)
    · exact (hsix _ (by omega)).merge (hsix _ (by omega))
end
end Go.Proofs.Ytkodpijedinanaa.Sim

namespace Go.Proofs.Ytkodpijedinanaa
open Go.ChangeShapes Go.WideShapes Go.ChangeAt Go.RowKit
set_option linter.unusedVariables false
set_option linter.unusedSimpArgs false

theorem cnotmay (v : Value) (l : List Ent) (w : World) (h : Has w 5 v l.length (ents l)) (hm : MayL l) (hlen : l.length ≤ 8) :
    Calls Try.prog 19 #[v] w fun e w' => e = .returned (.bool false) ∧ Below w.heap.size w w' := by
  have C := Lib.hid (cmay v l w h hm hlen)
  clear h hm hlen
  go_enter Try.func19, Try.ntmps19
  go_wp2_with (go_at_call 17; refine C.out.mono ?_; rintro e w' ⟨rfl, hb⟩)
  go_ret
  exact ⟨rfl, hb⟩
/-- A row of lists of entries. -/
structure LRow (w : World) (va : Option Addr) (n : Nat) (ls : Nat → List Ent) : Prop where
  row : ∀ j, j < n → ∃ b u, va = some ⟨b, 0, none⟩ ∧ w.cell? ⟨b, j, none⟩ = some u ∧ Has w 5 u (ls j).length (ents (ls j))
set_option maxRecDepth 100000 in
set_option maxHeartbeats 1000000 in
theorem cindexE (va : Option Addr) (n cap : Nat) (ls : Nat → List Ent) (w : World) (h : LRow w va n ls) (hn : n ≤ 200) (hmay : ∀ j, j < n → MayL (ls j) ∧ (ls j).length ≤ 8) :
    Calls Try.prog 33 #[.slice va n cap, .func (.func 19) #[] #[]] w fun e w' => e = .returned (.int .i64 (-1)) ∧ Below w.heap.size w w' := by
  have H := Lib.hid h
  have Hm := Lib.hid hmay
  clear h hmay
  go_enter Try.func33, Try.ntmps33
  go_wp2_with fail
  go_loopw [5, 8] (fun _ i wr => ∃ k : Nat, k ≤ n ∧ i = .int .i64 k ∧ Hid (Below w.heap.size w wr)) (fun _ i _ => n - (intOf i).toNat)
  case atStart => exact ⟨0, by omega, rfl, Below.refl _ _⟩
  case round =>
    obtain ⟨k, hk, rfl, HB⟩ := hrel
    by_cases h1 : k < n
    · obtain ⟨b, u, rfl, hcell, hhas⟩ := H.out.row k h1
      replace hcell := cell_on HB.out hcell
      have C := Lib.hid (cnotmay u (ls k) wr (hhas.below HB.out) (Hm.out k h1).1 (Hm.out k h1).2)
      clear hhas
      go_wp2_with (go_at_call 19; refine C.out.mono ?_; rintro e w' ⟨rfl, hb⟩)
      go_roundw
      case rel => exact ⟨k + 1, by omega, by go_num, HB.out.trans (hb.mono HB.out.size)⟩
      case measure => simp [intOf]; omega
    · obtain rfl : k = n := by omega
      go_wp2
      go_ret
      exact ⟨rfl, HB.out⟩
set_option maxRecDepth 100000 in
set_option maxHeartbeats 1000000 in
theorem ccontEW (va : Option Addr) (n cap : Nat) (ls : Nat → List Ent) (w : World) (h : LRow w va n ls) (hn : n ≤ 200) (hmay : ∀ j, j < n → MayL (ls j) ∧ (ls j).length ≤ 8) :
    Sim.CallsW Try.prog 18 #[.slice va n cap, .func (.func 19) #[] #[]] w fun e w' => e = .returned (.bool false) ∧ Below w.heap.size w w' := by
  have C := Lib.hid (cindexE va n cap ls w h hn hmay)
  clear h hmay
  refine Sim.callsW_of Try.func18 rfl ?_
  simp only [Try.ntmps18, List.size_toArray, List.length_cons, List.length_nil, Nat.reduceAdd, Nat.reduceSub, Array.replicate_succ, Array.replicate_zero, List.push_toArray, List.append_toArray, List.nil_append, List.cons_append]
  go_wp2_with (go_at_call 33; refine C.out.mono ?_; rintro e w' ⟨rfl, hb⟩)
  go_ret
  exact ⟨rfl, hb⟩
set_option maxRecDepth 100000 in
set_option maxHeartbeats 1000000 in
theorem cclone_entW (v : Value) (n : Nat) (xs : List Value) (w : World) (h : Has w 5 v n xs) (h1 : xs.all Value.oneCell' = true) (hbytes : n * 40 ≤ 140737488355328) :
    Sim.CallsW Try.prog 24 #[v] w fun e w' => ∃ v', e = .returned v' ∧ w'.ownsRow w.heap.size 42 5 v' n xs ∧ Below w.heap.size w w' := by
  obtain ⟨⟨hl, hnil⟩, a, cap, rfl, hn, hm, hc⟩ := h
  have q := fun w a n c n' c' => eql_nil Try.underlying35 w a n c n' c'
  have H1 := Lib.hid h1
  cases a with
  | none =>
    obtain ⟨rfl, rfl⟩ := hnil _ _ rfl
    obtain rfl : xs = [] := List.eq_nil_of_length_eq_zero (by simpa using hl)
    clear hc hnil hl h1
    refine Sim.callsW_of Try.func24 rfl ?_
    simp only [Try.ntmps24, List.size_toArray, List.length_cons, List.length_nil, Nat.reduceAdd, Nat.reduceSub, Array.replicate_succ, Array.replicate_zero, List.push_toArray, List.append_toArray, List.nil_append, List.cons_append]
    go_wp2
    go_ret
    exact ⟨_, rfl, World.ownsRow_nil _ _ _ _, Below.refl _ _⟩
  | some a =>
    have Hs : Hid (∀ X, Below w.heap.size w X → Has X 5 (.slice (some a) n cap) n xs) := fun X hX => Has.below ⟨⟨hl, hnil⟩, some a, cap, rfl, hn, hm, hc⟩ hX
    have hn' : 0 + n ≤ maxLen := by omega
    have Hl := Lib.hid hl
    clear hc hnil hl h1
    refine Sim.callsW_of Try.func24 rfl ?_
    simp only [Try.ntmps24, List.size_toArray, List.length_cons, List.length_nil, Nat.reduceAdd, Nat.reduceSub, Array.replicate_succ, Array.replicate_zero, List.push_toArray, List.append_toArray, List.nil_append, List.cons_append]
    go_wp2_with (at_builtin; refine wp_appN (w0 := w.alloc (.cells #[] 42)) 35 42 5 40 _ elEntry Try.underlying35 w.heap.size _ _ _ (World.ownsRow_made w #[] 0 (Nat.le_refl _) (Nat.zero_le _) rfl) (by repeat (first | exact Below.refl _ _ | refine Below.drew ?_ | refine Below.alloc ?_ (by first | (simp; done) | (simp; omega)) _ | refine Below.setCell ?_ (by first | (simp; done) | (simp; omega)) _)) _ _ _ (Hs.out _ ((Below.refl _ _).alloc (Nat.le_refl _) _)) rfl _ _ rfl rfl rfl H1.out (by omega) hn' (by simp) ?_; intro v3 w3 hown3 hgrow3 hb3)
    go_wp2
    go_ret
    exact ⟨_, rfl, by simpa using hown3, ((Below.refl _ w).alloc (Nat.le_refl _) _).trans hb3⟩
end Go.Proofs.Ytkodpijedinanaa

namespace Go.Proofs.Ytkodpijedinanaa
open Go.ChangeShapes Go.WideShapes Go.ChangeAt Go.RowKit
set_option linter.unusedVariables false
set_option linter.unusedSimpArgs false

set_option maxRecDepth 100000 in
set_option maxHeartbeats 4000000 in
theorem csameEntries (v1 v2 : Value) (l : List Ent) (w : World) (h1 : Has w 5 v1 l.length (ents l)) (h2 : Has w 5 v2 l.length (ents l)) :
    Calls Try.prog 12 #[v1, v2] w fun e w' => e = .returned (.bool true) ∧ Below w.heap.size w w' := by
  have H1 := Lib.hid h1
  have H2 := Lib.hid h2
  obtain ⟨_, a1, c1, rfl, _, hm1, _⟩ := h1
  obtain ⟨_, a2, c2, rfl, _, hm2, _⟩ := h2
  unfold maxLen at hm1 hm2
  have hnn : ((l.length : Int) != (l.length : Int)) = false := by simp
  go_enter Try.func12, Try.ntmps12
  go_wp2_with fail
  go_loopw [5] (fun i wr => ∃ k : Nat, k ≤ l.length ∧ i = .int .i64 k ∧ Hid (Below w.heap.size w wr)) (fun i _ => l.length - (intOf i).toNat)
  case atStart => exact ⟨0, by omega, rfl, Below.refl _ _⟩
  case round =>
    obtain ⟨k, hk, rfl, HB⟩ := hrel
    by_cases hlt : k < l.length
    · obtain ⟨g1, o1, cc1, he, -, y0, y1, y2, y3, y4⟩ := ent_get H1.out k hlt
      simp only [Value.slice.injEq] at he
      obtain ⟨rfl, -, rfl⟩ := he
      obtain ⟨g2, o2, cc2, he, -, z0, z1, z2, z3, z4⟩ := ent_get H2.out k hlt
      simp only [Value.slice.injEq] at he
      obtain ⟨rfl, -, rfl⟩ := he
      replace y0 := cell_on HB.out y0
      replace y1 := cell_on HB.out y1
      replace y2 := cell_on HB.out y2
      replace y3 := cell_on HB.out y3
      replace y4 := cell_on HB.out y4
      replace z0 := cell_on HB.out z0
      replace z1 := cell_on HB.out z1
      replace z2 := cell_on HB.out z2
      replace z3 := cell_on HB.out z3
      replace z4 := cell_on HB.out z4
      have hltz : (k : Int) < (l.length : Int) := by omega
      generalize l[k] = x at *
      obtain ⟨xk, xv, xt, xh, xg⟩ := x
      simp only at y0 y1 y2 y3 y4 z0 z1 z2 z3 z4
      go_upto_region 6 with (fail)
      go_quiet (fail)
      go_wp2_with fail
      go_roundw
      case rel => exact ⟨k + 1, by omega, by go_num, below_drewN HB.out _⟩
      case measure => first | (simp [intOf]; done) | (simp [intOf]; omega)
    · obtain rfl : k = l.length := by omega
      go_wp2_with fail
      go_ret
      exact ⟨rfl, HB.out⟩
end Go.Proofs.Ytkodpijedinanaa

namespace Go.Proofs.Ytkodpijedinanaa
open Go.ChangeShapes Go.WideShapes Go.ChangeAt Go.RowKit
set_option linter.unusedVariables false
set_option linter.unusedSimpArgs false
set_option maxRecDepth 100000 in
set_option maxHeartbeats 4000000 in
theorem csameEntriesW (v1 v2 : Value) (l : List Ent) (w : World) (h1 : Has w 5 v1 l.length (ents l)) (h2 : Has w 5 v2 l.length (ents l)) :
    Sim.CallsW Try.prog 12 #[v1, v2] w fun e w' => e = .returned (.bool true) ∧ Below w.heap.size w w' := by
  have H1 := Lib.hid h1
  have H2 := Lib.hid h2
  obtain ⟨_, a1, c1, rfl, _, hm1, _⟩ := h1
  obtain ⟨_, a2, c2, rfl, _, hm2, _⟩ := h2
  unfold maxLen at hm1 hm2
  have hnn : ((l.length : Int) != (l.length : Int)) = false := by simp
  refine Sim.callsW_of Try.func12 rfl ?_
  simp only [Try.ntmps12, List.size_toArray, List.length_cons, List.length_nil, Nat.reduceAdd, Nat.reduceSub, Array.replicate_succ, Array.replicate_zero, List.push_toArray, List.append_toArray, List.nil_append, List.cons_append]
  go_wp2_with fail
  go_loopw [5] (fun i wr => ∃ k : Nat, k ≤ l.length ∧ i = .int .i64 k ∧ Hid (Below w.heap.size w wr)) (fun i _ => l.length - (intOf i).toNat)
  case atStart => exact ⟨0, by omega, rfl, Below.refl _ _⟩
  case round =>
    obtain ⟨k, hk, rfl, HB⟩ := hrel
    by_cases hlt : k < l.length
    · obtain ⟨g1, o1, cc1, he, -, y0, y1, y2, y3, y4⟩ := ent_get H1.out k hlt
      simp only [Value.slice.injEq] at he
      obtain ⟨rfl, -, rfl⟩ := he
      obtain ⟨g2, o2, cc2, he, -, z0, z1, z2, z3, z4⟩ := ent_get H2.out k hlt
      simp only [Value.slice.injEq] at he
      obtain ⟨rfl, -, rfl⟩ := he
      replace y0 := cell_on HB.out y0
      replace y1 := cell_on HB.out y1
      replace y2 := cell_on HB.out y2
      replace y3 := cell_on HB.out y3
      replace y4 := cell_on HB.out y4
      replace z0 := cell_on HB.out z0
      replace z1 := cell_on HB.out z1
      replace z2 := cell_on HB.out z2
      replace z3 := cell_on HB.out z3
      replace z4 := cell_on HB.out z4
      have hltz : (k : Int) < (l.length : Int) := by omega
      generalize l[k] = x at *
      obtain ⟨xk, xv, xt, xh, xg⟩ := x
      simp only at y0 y1 y2 y3 y4 z0 z1 z2 z3 z4
      go_upto_region 6 with (fail)
      go_quiet (fail)
      go_wp2_with fail
      go_roundw
      case rel => exact ⟨k + 1, by omega, by go_num, below_drewN HB.out _⟩
      case measure => first | (simp [intOf]; done) | (simp [intOf]; omega)
    · obtain rfl : k = l.length := by omega
      go_wp2_with fail
      go_ret
      exact ⟨rfl, HB.out⟩
theorem pickedW (a n : Int) (hn : 0 < n) (hm : n ≤ 1152921504606846976) (w : World) :
    Sim.CallsW Try.prog 5 #[.int .i64 a, .int .i64 n] w fun e w' => e = .returned (.int .i64 (pick a n)) ∧ w = w' := by
  have h1 := Int.tmod_lt_of_pos a hn
  have h2 : -n < a.tmod n := by
    have := Int.neg_tmod a n
    have := Int.tmod_lt_of_pos (-a) hn
    omega
  have H : Hid (pick a n = if a.tmod n < 0 then a.tmod n + n else a.tmod n) := rfl
  refine Sim.callsW_of Try.func5 rfl ?_
  simp only [Try.ntmps5, List.size_toArray, List.length_cons, List.length_nil, Nat.reduceAdd, Nat.reduceSub, Array.replicate_succ, Array.replicate_zero, List.push_toArray, List.append_toArray, List.nil_append, List.cons_append]
  go_wp2
  all_goals go_ret
  · exact ⟨ret_int (by rw [H.out, if_pos (by assumption)]), rfl⟩
  · exact ⟨ret_int (by rw [H.out, if_neg (by omega)]), rfl⟩

set_option maxRecDepth 100000 in
set_option maxHeartbeats 4000000 in
theorem cmayW (v : Value) (l : List Ent) (w : World) (h : Has w 5 v l.length (ents l)) (hm : MayL l) (hlen : l.length ≤ 8) :
    Sim.CallsW Try.prog 17 #[v] w fun e w' => e = .returned (.bool true) ∧ Below w.heap.size w w' := by
  have H := Lib.hid h
  have HM := Lib.hid hm
  obtain ⟨_, a, cap, rfl, hcn, hcm, _⟩ := h
  unfold maxLen at hcm
  clear hm
  refine Sim.callsW_of Try.func17 rfl ?_
  simp only [Try.ntmps17, List.size_toArray, List.length_cons, List.length_nil, Nat.reduceAdd, Nat.reduceSub, Array.replicate_succ, Array.replicate_zero, List.push_toArray, List.append_toArray, List.nil_append, List.cons_append]
  go_wp2_with fail
  go_loopw [3, 7] (fun _ i wr => ∃ k : Nat, k ≤ l.length ∧ i = .int .i64 k ∧ Hid (Below w.heap.size w wr)) (fun _ i _ => l.length - (intOf i).toNat)
  case atStart => exact ⟨0, by omega, rfl, Below.refl _ _⟩
  case round =>
    obtain ⟨k, hk, rfl, HB⟩ := hrel
    by_cases hlt : k < l.length
    · obtain ⟨b, off, cap', he, -, x0, x1, x2, x3, x4⟩ := ent_get H.out k hlt
      simp only [Value.slice.injEq] at he
      obtain ⟨rfl, -, rfl⟩ := he
      replace x0 := cell_on HB.out x0
      replace x1 := cell_on HB.out x1
      replace x2 := cell_on HB.out x2
      replace x3 := cell_on HB.out x3
      replace x4 := cell_on HB.out x4
      have hbl := World.block_lt_of_cell? wr _ x0
      have hltz : (k : Int) < (l.length : Int) := by omega
      have hxok := HM.out.ok _ (List.getElem_mem hlt)
      have hb := ent_box (w := wr) l[k]
      have hprev : 0 < k → ∃ p : Int, wr.cell? ⟨b, off + (k - 1) * 5, none⟩ = some (.int .i64 p) ∧ p < l[k].k := fun hk0 => by
        obtain ⟨b', off', cap'', he, -, y0, -⟩ := ent_get H.out (k - 1) (by omega)
        simp only [Value.slice.injEq, Option.some.injEq, Addr.mk.injEq, and_true, true_and] at he
        obtain ⟨⟨rfl, rfl⟩, rfl⟩ := he
        exact ⟨_, cell_on HB.out y0, HM.out.lt (k - 1) k (by omega) hlt (by omega)⟩
      have hE := heap_alloc_new wr (.cells #[.int .i64 l[k].k, .int .i64 l[k].v, .int .i64 l[k].t, .int .i64 l[k].h, .bool l[k].g] 42)
      have CO := Lib.hid fun X => cone l[k] hxok X
      generalize l[k] = x at *
      obtain ⟨⟨z0, z1, z2, z3, z4⟩, -⟩ := five_at hE
      have Hb := Lib.hid hb
      have Hprev := Lib.hid hprev
      clear hE hb hxok hprev
      go_upto_region 4 with (fail)
      generalize hW : wr.alloc (.cells #[.int .i64 x.k, .int .i64 x.v, .int .i64 x.t, .int .i64 x.h, .bool x.g] 42) = W at *
      have CS : Hid (∀ X : Ext W, Calls Try.prog 32 #[.agg #[.int .i64 x.k, .int .i64 x.v, .int .i64 x.t, .int .i64 x.h, .bool x.g]] X.1 fun e w' => e = .returned (.bool true) ∧ Below X.1.heap.size X.1 w') := fun X => CO.out X.1
      have p0 := ext_cell z0
      have p1 := ext_cell z1
      have p2 := ext_cell z2
      have p3 := ext_cell z3
      have p4 := ext_cell z4
      clear x0 x1 x2 x3 x4 z0 z1 z2 z3 z4 hW
      by_cases hk0 : 0 < k
      · obtain ⟨p, hp, hpx⟩ := Hprev.out hk0
        have p5 := ext_cell (cell_on Hb.out hp)
        have hz0 : (0 : Int) < (k : Int) := by omega
        have hw : IntKind.i64.wrap ((k : Int) - 1) = ((k - 1 : Nat) : Int) := by rw [show (k : Int) - 1 = ((k - 1 : Nat) : Int) by omega]; exact IntWalk.i64_in _ (by omega)
        have hk1 : ((k - 1 : Nat) : Int) < (l.length : Int) := by omega
        have hd : decide (x.k ≤ p) = false := by simp; omega
        refine wp_region_grow (by kernel_rfl) (by kernel_rfl) ?_
        repeat (go_big_quiet_step ((go_at_call 32; with_reducible exact grow_of (CS.out _))))
        refine wpQuiet_nil ?_
        intro w8 hb8
        have Hb8 : Hid (Below w.heap.size w w8) := (HB.out.trans (Hb.out.mono HB.out.size)).trans (hb8.mono (Nat.le_trans HB.out.size Hb.out.size))
        clear p0 p1 p2 p3 p4 p5 hb8 CS
        go_wp2_with fail
        go_roundw
        case rel => exact ⟨k + 1, by omega, by go_num, Hb8⟩
        case measure => first | (simp [intOf]; done) | (simp [intOf]; omega)
      · obtain rfl : k = 0 := by omega
        refine wp_region_grow (by kernel_rfl) (by kernel_rfl) ?_
        repeat (go_big_quiet_step ((go_at_call 32; with_reducible exact grow_of (CS.out _))))
        refine wpQuiet_nil ?_
        intro w8 hb8
        have Hb8 : Hid (Below w.heap.size w w8) := (HB.out.trans (Hb.out.mono HB.out.size)).trans (hb8.mono (Nat.le_trans HB.out.size Hb.out.size))
        clear p0 p1 p2 p3 p4 hb8 CS
        go_wp2_with fail
        go_roundw
        case rel => exact ⟨0 + 1, by omega, by go_num, Hb8⟩
        case measure => first | (simp [intOf]; done) | (simp [intOf]; omega)
    · obtain rfl : k = l.length := by omega
      go_wp2_with fail
      go_ret
      exact ⟨ret_bool (by simp; omega), HB.out⟩
end Go.Proofs.Ytkodpijedinanaa

namespace Go.Proofs.Ytkodpijedinanaa.Sim
open Go Go.Conc
set_option linter.unusedVariables false
set_option linter.unusedSimpArgs false

section
variable {main : Bool} {Sh : Shd} {Ju : Blk → Goroutine → World → Prop} {RB : List Frame} {B : Frame} {Own : Blk} {A : Act} {k : List Item} {Z : World → Prop}
theorem back_int {ρ : Ren} {k : IntKind} {n : Int} {VV : Value} (h : VRel ρ (.int k n) VV) : VV = .int k n := by cases h; rfl
theorem back_bool {ρ : Ren} {b : Bool} {VV : Value} (h : VRel ρ (.bool b) VV) : VV = .bool b := by cases h; rfl
set_option maxRecDepth 100000 in
/-- slices.ContainsFunc, over lists that may all be. -/
theorem rt_contains (hJ : Jud Try.prog main Sh Ju) (hz : Stable Own Sh Z) (hB : B.kind ≠ .early) {ops : Array Oper} {i : Nat} {l : List Nat} {o : Oper} (ho : ops[i]? = some o) (hg : o.guard = none) {x : Operand} {ats : Array TypeId}
    (hop : o.op = .call { callee := .value (.func 18), args := #[x, .func 19], argTypes := ats }) {va : Option Addr} {n cap rl : Nat} {V : Nat → Value} {ls : Nat → List Ent} (hx : A.eval x = .slice va n cap) (hva : 0 < n → va = some ⟨rl, 0, none⟩) (hva0 : n = 0 → va = none) (hn2 : n ≤ 200)
    (hrow : ∀ W, Z W → 0 < n → (Sh rl ∨ Own rl) ∧ ∃ cs e z, W.heap[rl]? = some (.cells cs e z) ∧ NoRng z) (hlv : ∀ W, Z W → ∀ j, j < n → W.cell? ⟨rl, j, none⟩ = some (V j)) (hent : ∀ W, Z W → ∀ j, j < n → REnt (fun b => Own b ∨ Sh b) W (V j) (ls j)) (hmay : ∀ j, j < n → MayL (ls j) ∧ (ls j).length ≤ 8) (hgl : ∀ W, Z W → Try.prog.globals.size ≤ W.heap.size)
    (hn : ∀ O, (∀ x, Own x → O x) → (∀ x, O x → Own x ∨ ∃ W, Z W ∧ W.heap.size ≤ x) → Rt Ju RB B (.inRegion ops l :: k) O (A.put o.dst (.bool false)) Z) : Rt Ju RB B (.inRegion ops (i :: l) :: k) Own A Z := by
  have hK : ∀ W b, (Own b ∨ Sh b) → (∃ cs e z, W.heap[b]? = some (.cells cs e z) ∧ NoRng z) → (allVis Own Sh W).sh b ∧ ¬ (allVis Own Sh W).opq b := fun W b h1 h2 => ⟨⟨h1.symm, h2⟩, fun h => h⟩
  refine rt_call fns_ok hJ hz hB ho hg hop Try.func18 (by kernel_rfl) rfl (by kernel_rfl) (by kernel_rfl) (argsR := #[.slice va n cap, .func (.func 19) #[] #[]]) (by simp [hx]; rfl) (V := allVis Own Sh) (fun W _ => allVis_ok _ _ _) hgl
    (Q := fun W v w' => v = .bool false) (fun W z τ d => ?_) fun W z O VV W' hb' => ?_
  · have e2 : sanV (allVis Own Sh W) W.heap.size (.func (.func 19) #[] #[]) = .func (.func 19) #[] #[] := by
      rw [sanV, if_pos ⟨_, rfl, by decide, rfl, rfl⟩]
    have e1 : ∃ va', sanV (allVis Own Sh W) W.heap.size (.slice va n cap) = .slice va' n cap ∧ LRow (lay (fresh (allVis Own Sh W) W) τ d) va' n ls := by
      by_cases h0 : n = 0
      · subst h0
        rw [hva0 rfl, sanV]
        exact ⟨none, rfl, ⟨fun j hj => absurd hj (Nat.not_lt_zero j)⟩⟩
      · obtain ⟨hr1, hr2⟩ := hrow W z (by omega)
        rw [hva (by omega), sanV, if_pos (show (allVis Own Sh W).see _ from .inr (.inl ⟨hr1, hr2⟩))]
        exact ⟨_, rfl, ⟨fun j hj => ⟨_, _, rfl, fresh_cell (V := allVis Own Sh W) (a := ⟨rl, j, none⟩) (fun h => h) (hlv W z j hj), (hent W z j hj).into (hK W) τ d⟩⟩⟩
    obtain ⟨va', e1, hl⟩ := e1
    rw [show (#[.slice va n cap, .func (.func 19) #[] #[]] : Array Value).map (sanV (allVis Own Sh W) W.heap.size) = #[.slice va' n cap, .func (.func 19) #[] #[]] from by simp [e1, e2]]
    refine (ccontEW va' n cap ls _ hl hn2 hmay).mono ?_
    rintro e w' ⟨rfl, h1⟩
    exact ⟨_, rfl, rfl⟩
  · obtain ⟨hr, ρ, v, w, F, Oc, rfl, h0, h1, h2, h3, h4, h5, h6, τ, d, rfl⟩ := hb'
    obtain rfl := back_bool h6
    exact hn _ (fun x h => .inl h) (fun x h => h.imp id fun h => ⟨W, z, h0 x h⟩) W' (hz W W' hr z)
set_option maxRecDepth 100000 in
/-- slices.Clone. -/
theorem rt_clone (hJ : Jud Try.prog main Sh Ju) (hz : Stable Own Sh Z) (hB : B.kind ≠ .early) {ops : Array Oper} {i : Nat} {l : List Nat} {o : Oper} (ho : ops[i]? = some o) (hg : o.guard = none) {x : Operand} {ats : Array TypeId}
    (hop : o.op = .call { callee := .value (.func 24), args := #[x], argTypes := ats }) {va : Value} (hx : A.eval x = va) {a : List Ent} (ha : ∀ W, Z W → REnt (fun b => Own b ∨ Sh b) W va a) (hlen : a.length ≤ 8) (hgl : ∀ W, Z W → Try.prog.globals.size ≤ W.heap.size)
    (hn : ∀ O V', (∀ x, Own x → O x) → (∀ x, O x → Own x ∨ ∃ W, Z W ∧ W.heap.size ≤ x) → Rt Ju RB B (.inRegion ops l :: k) O (A.put o.dst V') fun W => Z W ∧ REnt (fun b => O b ∨ Sh b) W V' a) : Rt Ju RB B (.inRegion ops (i :: l) :: k) Own A Z := by
  have hK : ∀ W b, (Own b ∨ Sh b) → (∃ cs e z, W.heap[b]? = some (.cells cs e z) ∧ NoRng z) → (allVis Own Sh W).sh b ∧ ¬ (allVis Own Sh W).opq b := fun W b h1 h2 => ⟨⟨h1.symm, h2⟩, fun h => h⟩
  refine rt_call fns_ok hJ hz hB ho hg hop Try.func24 (by kernel_rfl) rfl (by kernel_rfl) (by kernel_rfl) (argsR := #[va]) (by simp [hx]) (V := allVis Own Sh) (fun W _ => allVis_ok _ _ _) hgl
    (Q := fun W v w' => EntQ a v w') (fun W z τ d => ?_) fun W z O VV W' hb' => ?_
  · rw [show (#[va] : Array Value).map (sanV (allVis Own Sh W) W.heap.size) = #[sanV (allVis Own Sh W) W.heap.size va] from by simp]
    refine (cclone_entW _ a.length (ents a) _ ((ha W z).into (hK W) τ d) (ents_all a) (by omega)).mono ?_
    rintro e w' ⟨v', rfl, h1, h2⟩
    exact ⟨_, rfl, entQ_of h1 rfl⟩
  · obtain ⟨hr, ρ, v, w, F, Oc, rfl, h0, h1, h2, h3, h4, h5, h6, τ, d, hq⟩ := hb'
    exact hn _ VV (fun x h => .inl h) (fun x h => h.imp id fun h => ⟨W, z, h0 x h⟩) W' ⟨hz W W' hr z, back_ent (V := allVis Own Sh W) h1 h4 h5 h6 hq⟩
set_option maxRecDepth 100000 in
/-- sameEntries, of the same. -/
theorem rt_same (hJ : Jud Try.prog main Sh Ju) (hz : Stable Own Sh Z) (hB : B.kind ≠ .early) {ops : Array Oper} {i : Nat} {l : List Nat} {o : Oper} (ho : ops[i]? = some o) (hw : Region.wanted o (yielded ops A.tmps) = true) {x y : Operand} {ats : Array TypeId}
    (hop : o.op = .call { callee := .value (.func 12), args := #[x, y], argTypes := ats }) {va vb : Value} (hx : A.eval x = va) (hy : A.eval y = vb) {a : List Ent} (ha : ∀ W, Z W → REnt (fun b => Own b ∨ Sh b) W va a) (hb : ∀ W, Z W → REnt (fun b => Own b ∨ Sh b) W vb a) (hgl : ∀ W, Z W → Try.prog.globals.size ≤ W.heap.size)
    (hn : ∀ O, (∀ x, Own x → O x) → (∀ x, O x → Own x ∨ ∃ W, Z W ∧ W.heap.size ≤ x) → Rt Ju RB B (.inRegion ops l :: k) O (A.put o.dst (.bool true)) Z) : Rt Ju RB B (.inRegion ops (i :: l) :: k) Own A Z := by
  have hK : ∀ W b, (Own b ∨ Sh b) → (∃ cs e z, W.heap[b]? = some (.cells cs e z) ∧ NoRng z) → (allVis Own Sh W).sh b ∧ ¬ (allVis Own Sh W).opq b := fun W b h1 h2 => ⟨⟨h1.symm, h2⟩, fun h => h⟩
  refine rt_callw fns_ok hJ hz hB ho hw hop Try.func12 (by kernel_rfl) rfl (by kernel_rfl) (by kernel_rfl) (argsR := #[va, vb]) (by simp [hx, hy]) (V := allVis Own Sh) (fun W _ => allVis_ok _ _ _) hgl
    (Q := fun W v w' => v = .bool true) (fun W z τ d => ?_) fun W z O VV W' hb' => ?_
  · rw [show (#[va, vb] : Array Value).map (sanV (allVis Own Sh W) W.heap.size) = #[sanV (allVis Own Sh W) W.heap.size va, sanV (allVis Own Sh W) W.heap.size vb] from by simp]
    refine (csameEntriesW _ _ a _ ((ha W z).into (hK W) τ d) ((hb W z).into (hK W) τ d)).mono ?_
    rintro e w' ⟨rfl, h1⟩
    exact ⟨_, rfl, rfl⟩
  · obtain ⟨hr, ρ, v, w, F, Oc, rfl, h0, h1, h2, h3, h4, h5, h6, τ, d, rfl⟩ := hb'
    obtain rfl := back_bool h6
    exact hn _ (fun x h => .inl h) (fun x h => h.imp id fun h => ⟨W, z, h0 x h⟩) W' (hz W W' hr z)
set_option maxRecDepth 100000 in
/-- reg.May, of what may be. -/
theorem rt_may (hJ : Jud Try.prog main Sh Ju) (hz : Stable Own Sh Z) (hB : B.kind ≠ .early) {ops : Array Oper} {i : Nat} {l : List Nat} {o : Oper} (ho : ops[i]? = some o) (hg : o.guard = none) {x : Operand} {ats : Array TypeId}
    (hop : o.op = .call { callee := .value (.func 17), args := #[x], argTypes := ats }) {va : Value} (hx : A.eval x = va) {a : List Ent} (ha : ∀ W, Z W → REnt (fun b => Own b ∨ Sh b) W va a) (hm : MayL a) (hlen : a.length ≤ 8) (hgl : ∀ W, Z W → Try.prog.globals.size ≤ W.heap.size)
    (hn : ∀ O, (∀ x, Own x → O x) → Rt Ju RB B (.inRegion ops l :: k) O (A.put o.dst (.bool true)) Z) : Rt Ju RB B (.inRegion ops (i :: l) :: k) Own A Z := by
  have hK : ∀ W b, (Own b ∨ Sh b) → (∃ cs e z, W.heap[b]? = some (.cells cs e z) ∧ NoRng z) → (allVis Own Sh W).sh b ∧ ¬ (allVis Own Sh W).opq b := fun W b h1 h2 => ⟨⟨h1.symm, h2⟩, fun h => h⟩
  refine rt_call fns_ok hJ hz hB ho hg hop Try.func17 (by kernel_rfl) rfl (by kernel_rfl) (by kernel_rfl) (argsR := #[va]) (by simp [hx]) (V := allVis Own Sh) (fun W _ => allVis_ok _ _ _) hgl
    (Q := fun W v w' => v = .bool true) (fun W z τ d => ?_) fun W z O VV W' hb' => ?_
  · rw [show (#[va] : Array Value).map (sanV (allVis Own Sh W) W.heap.size) = #[sanV (allVis Own Sh W) W.heap.size va] from by simp]
    refine (cmayW _ a _ ((ha W z).into (hK W) τ d) hm hlen).mono ?_
    rintro e w' ⟨rfl, h1⟩
    exact ⟨_, rfl, rfl⟩
  · obtain ⟨hr, ρ, v, w, F, Oc, rfl, h0, h1, h2, h3, h4, h5, h6, τ, d, rfl⟩ := hb'
    obtain rfl := back_bool h6
    exact hn _ (fun x h => .inl h) W' (hz W W' hr z)
set_option maxRecDepth 100000 in
/-- Picked. -/
theorem rt_picked (hJ : Jud Try.prog main Sh Ju) (hz : Stable Own Sh Z) (hB : B.kind ≠ .early) {ops : Array Oper} {i : Nat} {l : List Nat} {o : Oper} (ho : ops[i]? = some o) (hg : o.guard = none) {x y : Operand} {ats : Array TypeId}
    (hop : o.op = .call { callee := .value (.func 5), args := #[x, y], argTypes := ats }) {a n : Int} (hx : A.eval x = .int .i64 a) (hy : A.eval y = .int .i64 n) (h0 : 0 < n) (hm : n ≤ 1152921504606846976) (hgl : ∀ W, Z W → Try.prog.globals.size ≤ W.heap.size)
    (hn : ∀ O, (∀ x, Own x → O x) → Rt Ju RB B (.inRegion ops l :: k) O (A.put o.dst (.int .i64 (pick a n))) Z) : Rt Ju RB B (.inRegion ops (i :: l) :: k) Own A Z := by
  refine rt_call fns_ok hJ hz hB ho hg hop Try.func5 (by kernel_rfl) rfl (by kernel_rfl) (by kernel_rfl) (argsR := #[.int .i64 a, .int .i64 n]) (by simp [hx, hy]) (V := allVis Own Sh) (fun W _ => allVis_ok _ _ _) hgl
    (Q := fun W v w' => v = .int .i64 (pick a n)) (fun W z τ d => ?_) fun W z O VV W' hb' => ?_
  · rw [show (#[.int .i64 a, .int .i64 n] : Array Value).map (sanV (allVis Own Sh W) W.heap.size) = #[.int .i64 a, .int .i64 n] from by simp [sanV]]
    refine (pickedW a n h0 hm _).mono ?_
    rintro e w' ⟨rfl, h1⟩
    exact ⟨_, rfl, rfl⟩
  · obtain ⟨hr, ρ, v, w, F, Oc, rfl, h0, h1, h2, h3, h4, h5, h6, τ, d, rfl⟩ := hb'
    obtain rfl := back_int h6
    exact hn _ (fun x h => .inl h) W' (hz W W' hr z)
end
end Go.Proofs.Ytkodpijedinanaa.Sim

namespace Go.Proofs.Ytkodpijedinanaa.Sim
open Go Go.Conc
set_option linter.unusedVariables false
set_option linter.unusedSimpArgs false

theorem allL_six : ∀ (n : Nat) (ls : Nat → List Ent), (∀ j, j < n → SixL (ls j)) → SixL (allL n ls) := by
  intro n
  induction n using Nat.strongRecOn with
  | _ n ih =>
  intro ls h
  by_cases h1 : n ≤ 1
  · rw [allL_one h1]
    split
    · exact SixL.nil
    · exact h 0 (by omega)
  · rw [allL_more h1]
    refine ih _ (by omega) _ fun j hj => ?_
    unfold nextL
    split
    · exact h _ (by omega)
    · exact (h _ (by omega)).merge (h _ (by omega))
noncomputable def blC : Code := hd (hd (tl cAll))
noncomputable def endC : Code := tl (tl (tl cAll))
noncomputable def r0C : Code := hd cAll
noncomputable def r1C : Code := hd blC
noncomputable def r2C : Code := hd (hd (tl blC))
noncomputable def r3C : Code := hd (tl (tl blC))
noncomputable def r4C : Code := hd (hd (tl (tl (tl blC))))
noncomputable def r23C : Code := hd (hd endC)
noncomputable def r24C : Code := hd (hd (tl (hd endC)))
noncomputable def r25C : Code := hd (tl endC)
theorem cAll_eq : cAll = .seq r0C (.seq (.block 0 (.seq r1C (.cond (.tmp 10) (.seq r2C .ret) (.seq r3C (.cond (.tmp 14) (.seq r4C .ret) .skip))))) (.seq (.block 1 (.loop lpC)) endC)) := by kernel_rfl
theorem endC_eq : endC = .seq (.seq r23C (.cond (.tmp 50) (.seq r24C .ret) .skip)) (.seq r25C .ret) := by kernel_rfl
theorem ent_nil (K : Blk) (W : World) : REnt K W (.slice none 0 0) [] := ⟨⟨⟨rfl, fun n c e => by cases e; exact ⟨rfl, rfl⟩⟩, none, 0, rfl, Nat.le_refl _, Nat.zero_le _, fun h => by simp [ents] at h⟩, fun a n c e => by cases e⟩
theorem Keep.cell {K : Blk} {W0 W : World} (h : Keep K W0 W) {a : Addr} {v : Value} (hK : K a.block) (hc : W0.cell? a = some v) : W.cell? a = some v := by
  cases ho : W0.heap[a.block]? with
  | none => simp [World.cell?, ho] at hc
  | some q =>
    have := h.heap _ q hK ho
    simp only [World.cell?, ho] at hc
    simp only [World.cell?, this]
    exact hc
section
variable {W00 : World} {lo : Nat} {Post : Value → World → Prop} {RB : List Frame} {B : Frame} {A : Act} {k : List Item} {Own : Blk} {Z : World → Prop} {n0 Wg Bd : Nat} {Gr : Blk}
set_option maxRecDepth 100000 in
set_option maxHeartbeats 16000000 in
/-- A call of crew.MergeAll. -/
theorem rt_mergeall (hz : Stable Own (shR lo Gr) Z) (hB : B.kind ≠ .early) {ops : Array Oper} {i : Nat} {l : List Nat} {o : Oper} (ho : ops[i]? = some o) (hg : o.guard = none) {x : Operand} {ats : Array TypeId}
    (hop : o.op = .call { callee := .value (.func 11), args := #[x], argTypes := ats }) {va : Option Addr} {n cap rl : Nat} {V : Nat → Value} {ls : Nat → List Ent} (hx : A.eval x = .slice va n cap) (hva : 0 < n → va = some ⟨rl, 0, none⟩) (hva0 : n = 0 → va = none) (hn2 : n ≤ 200) (hsix : ∀ j, j < n → SixL (ls j))
    (hrow : ∀ W, Z W → 0 < n → (rl < lo ∨ Own rl) ∧ ∃ cs e z, W.heap[rl]? = some (.cells cs e z) ∧ NoRng z) (hlv : ∀ W, Z W → ∀ j, j < n → W.cell? ⟨rl, j, none⟩ = some (V j)) (hent : ∀ W, Z W → ∀ j, j < n → REnt (fun b => Own b ∨ b < lo) W (V j) (ls j)) (hgl : ∀ W, Z W → Try.prog.globals.size ≤ W.heap.size) (hlo : ∀ W, Z W → lo ≤ W.heap.size)
    (hn : ∀ W, Z W → ∀ n' Wg' Bd' Gr' O V', (∀ b, (Own b ∨ b < lo) → b < W.heap.size → O b ∨ b < lo) → Rt (MGo Try.prog W00 lo Post n' (fun _ => none) .ret Wg' Bd' 0 (shR lo Gr')) RB B (.inRegion ops l :: k) O (A.put o.dst (.tuple #[V', .int .i64 0])) (fun W' => Keep (fun b => (Own b ∨ b < lo) ∧ b < W.heap.size) W W' ∧ REnt (fun b => O b ∨ b < lo) W' V' (allL n ls))) :
    Rt (MGo Try.prog W00 lo Post n0 (fun _ => none) .ret Wg Bd 0 (shR lo Gr)) RB B (.inRegion ops (i :: l) :: k) Own A Z := fun Wc zc => by
  have hw : Region.wanted o (yielded ops A.tmps) = true := by simp [Region.wanted, hg]
  refine jud_mgo Try.prog W00 lo Post n0 (fun _ => none) (by simp) Wg Bd 0 (shR lo Gr) _ _ _ (call_enter hB ho hw hop Try.func11 (by kernel_rfl) (c := cAll) rfl fun W1 hr => .stop ?_)
  have z1 := hz _ _ hr zc
  replace hn := hn W1 z1
  have hgl1 := hgl W1 z1
  have hlo1 := hlo W1 z1
  obtain ⟨K, hK⟩ : ∃ K : Blk, K = fun b => (Own b ∨ b < lo) ∧ b < W1.heap.size := ⟨_, rfl⟩
  rw [← hK] at hn
  have hKo : ∀ b, K b → Own b ∨ b < lo := fun b h => by rw [hK] at h; exact h.1
  have hKs : ∀ b, K b → b < W1.heap.size := fun b h => by rw [hK] at h; exact h.2
  have hlv1 : ∀ j, j < n → W1.cell? ⟨rl, j, none⟩ = some (V j) := hlv W1 z1
  have hent1 : ∀ j, j < n → REnt K W1 (V j) (ls j) := fun j hj => (hent W1 z1 j hj).old fun b h1 h2 => by rw [hK]; exact ⟨h1, h2⟩
  have hrow1 : 0 < n → K rl ∧ ∃ cs e z, W1.heap[rl]? = some (.cells cs e z) ∧ NoRng z := fun h => by
    obtain ⟨h1, cs, e, z, h2, h3⟩ := hrow W1 z1 h
    exact ⟨by rw [hK]; exact ⟨h1.symm, heap_lt h2⟩, cs, e, z, h2, h3⟩
  clear hlv hent hrow hgl hlo zc hz z1 hr Wc
  obtain ⟨RB', hRB'⟩ : ∃ x, x = B.at A (.inRegion ops (i :: l) :: k) :: RB := ⟨_, rfl⟩
  rw [← hRB']
  have hleave : ∀ (n' Wg' Bd' : Nat) (Gr' O' O : Blk) (A' : Act) (V' : Value) (todo : List Item), A'.defers = [] → Sl A' 2 V' → Sl A' 3 (.int .i64 0) → (∀ b, K b → O b ∨ b < lo) →
      ∀ W, (Keep K W1 W ∧ REnt (fun b => O b ∨ b < lo) W V' (allL n ls)) → MGo Try.prog W00 lo Post n' (fun _ => none) .ret Wg' Bd' 0 (shR lo Gr') O (G { (base 11).at A' todo with mode := .returning } RB') W := fun n' Wg' Bd' Gr' O' O A' V' todo hd h2 h3 hO W hW => by
    subst hRB'
    refine jud_mgo Try.prog W00 lo Post n' (fun _ => none) (by simp) Wg' Bd' 0 (shR lo Gr') _ _ _ (call_leave2 rfl hd Try.func11 (t := 2) (u := 3) (by kernel_rfl) ho fun W2 hr => .stop ?_)
    rw [show A'.tmps.getD 2 undef = V' from h2.eval, show A'.tmps.getD 3 undef = .int .i64 0 from h3.eval]
    refine hn n' Wg' Bd' Gr' O V' (fun b h1 h2 => hO b (by rw [hK]; exact ⟨h1, h2⟩)) W2 ⟨hW.1.rely hr fun b hb => hO b hb, hW.2.rely hr fun b hb => hb⟩
  clear hRB' hn ho hw hop hg
  have hB : (base 11).kind ≠ .early := by simp [base]
  have hnt : Try.f11.ntmps = 55 := by kernel_rfl
  obtain ⟨A0, hA0⟩ : ∃ A0 : Act, A0 = { tmps := #[x].map A.eval ++ Array.replicate (Try.f11.ntmps - (#[x].map A.eval).size) undef, defers := [] } := ⟨_, rfl⟩
  rw [← hA0]
  have s0 : Sl A0 0 (.slice va n cap) := by subst hA0; exact sl_app (by simp [hx])
  have hsz : A0.tmps.size = 55 := by subst hA0; simp [hnt]
  have hdf : A0.defers = [] := by rw [hA0]
  clear hA0 hx
  generalize A0 = A at *
  have hJ := jud_mgo Try.prog W00 lo Post n0 (fun _ => none) (tag := .ret) (by simp) Wg Bd 0 (shR lo Gr)
  have hz : Stable Own (shR lo Gr) (Keep K W1) := fun W W' hr z => z.rely hr hKo
  refine (show Rt (MGo Try.prog W00 lo Post n0 (fun _ => none) .ret Wg Bd 0 (shR lo Gr)) RB' (base 11) [.code cAll] Own A (Keep K W1) from ?_) W1 (.refl _ _)
  rw [show (Item.code cAll : Item) = _ from congrArg Item.code cAll_eq]
  refine rt_seq hJ hz ?_
  rw [show r0C = .region 0 (regOps (r0C)) false from by kernel_rfl]
  refine rt_region hJ hz ?_
  rw [show List.range (regOps (r0C)).size = [0, 1, 2] from by kernel_rfl]
  obtain ⟨o, ho, hop, hg, hdst⟩ : ∃ o, (regOps (r0C))[0]? = some o ∧ o.op = .box 34 (.tmp 0) ∧ o.guard = none ∧ o.dst = some 1 := ⟨((regOps (r0C))[0]?).getD default, by kernel_rfl, by kernel_rfl, by kernel_rfl, by kernel_rfl⟩
  refine rt_allocv hJ hz hB ho hg (ob := .cells #[.slice va n cap] 34) (fun b => .pointer (some ⟨b, 0, none⟩)) (fun W z => boxLL hop s0.eval) fun bl hbl => ?_
  rw [hdst]
  replace s0 := s0.ne (d := 1) (u := (.pointer (some ⟨bl, 0, none⟩))) (by decide)
  have s1 : Sl (A.put (some 1) (.pointer (some ⟨bl, 0, none⟩))) 1 (.pointer (some ⟨bl, 0, none⟩)) := Sl.same (by rw [hsz]; decide)
  replace hsz : (A.put (some 1) (.pointer (some ⟨bl, 0, none⟩))).tmps.size = 55 := (put_size _ _ _).trans hsz
  replace hdf : (A.put (some 1) (.pointer (some ⟨bl, 0, none⟩))).defers = [] := (put_defers _ _ _).trans hdf
  generalize A.put (some 1) (.pointer (some ⟨bl, 0, none⟩)) = A at *
  clear ho hop hg hdst
  have hkb : ¬ K bl := by obtain ⟨W, z, rfl⟩ := hbl; exact fun h => absurd (Nat.lt_of_lt_of_le (hKs _ h) z.size) (Nat.lt_irrefl _)
  clear hbl
  have hz1 : Stable (fun x => Own x ∨ x = bl) (shR lo Gr) fun W => Keep K W1 W ∧ W.heap[bl]? = some (.cells #[.slice va n cap] 34) := Stable.and (hz.more fun x h => .inl h) (Stable.heap (.inl (.inr rfl)))
  obtain ⟨o, ho, hop, hg, hdst⟩ : ∃ o, (regOps (r0C))[1]? = some o ∧ o.op = .assign (.const (.slice none 0 0)) ∧ o.guard = none ∧ o.dst = some 2 := ⟨((regOps (r0C))[1]?).getD default, by kernel_rfl, by kernel_rfl, by kernel_rfl, by kernel_rfl⟩
  refine rt_val hJ hz1 hB ho hg (v := (.slice none 0 0)) (fun W z => assign1 hop rfl) (fun e he => by simp at he) ?_
  rw [hdst]
  replace s0 := s0.ne (d := 2) (u := (.slice none 0 0)) (by decide)
  replace s1 := s1.ne (d := 2) (u := (.slice none 0 0)) (by decide)
  have s2 : Sl (A.put (some 2) (.slice none 0 0)) 2 (.slice none 0 0) := Sl.same (by rw [hsz]; decide)
  replace hsz : (A.put (some 2) (.slice none 0 0)).tmps.size = 55 := (put_size _ _ _).trans hsz
  replace hdf : (A.put (some 2) (.slice none 0 0)).defers = [] := (put_defers _ _ _).trans hdf
  generalize A.put (some 2) (.slice none 0 0) = A at *
  clear ho hop hg hdst
  obtain ⟨o, ho, hop, hg, hdst⟩ : ∃ o, (regOps (r0C))[2]? = some o ∧ o.op = .assign (.const (.int .i64 0)) ∧ o.guard = none ∧ o.dst = some 3 := ⟨((regOps (r0C))[2]?).getD default, by kernel_rfl, by kernel_rfl, by kernel_rfl, by kernel_rfl⟩
  refine rt_val hJ hz1 hB ho hg (v := (.int .i64 0)) (fun W z => assign1 hop rfl) (fun e he => by simp at he) ?_
  rw [hdst]
  replace s0 := s0.ne (d := 3) (u := (.int .i64 0)) (by decide)
  replace s1 := s1.ne (d := 3) (u := (.int .i64 0)) (by decide)
  replace s2 := s2.ne (d := 3) (u := (.int .i64 0)) (by decide)
  have s3 : Sl (A.put (some 3) (.int .i64 0)) 3 (.int .i64 0) := Sl.same (by rw [hsz]; decide)
  replace hsz : (A.put (some 3) (.int .i64 0)).tmps.size = 55 := (put_size _ _ _).trans hsz
  replace hdf : (A.put (some 3) (.int .i64 0)).defers = [] := (put_defers _ _ _).trans hdf
  generalize A.put (some 3) (.int .i64 0) = A at *
  clear ho hop hg hdst
  refine rt_region_end hJ hz1 ?_
  refine rt_seq hJ hz1 ?_
  refine rt_block hJ hz1 ?_
  refine rt_seq hJ hz1 ?_
  rw [show r1C = .region 1 (regOps (r1C)) false from by kernel_rfl]
  refine rt_region hJ hz1 ?_
  rw [show List.range (regOps (r1C)).size = [0, 1, 2, 3] from by kernel_rfl]
  obtain ⟨o, ho, hop, hg, hdst⟩ : ∃ o, (regOps (r1C))[0]? = some o ∧ o.op = .load 34 (.tmp 1) ∧ o.guard = none ∧ o.dst = some 11 := ⟨((regOps (r1C))[0]?).getD default, by kernel_rfl, by kernel_rfl, by kernel_rfl, by kernel_rfl⟩
  refine rt_val hJ hz1 hB ho hg (v := (.slice va n cap)) (fun W z => loadLL hop s1.eval (cell_of z.2)) (fun e he => by simp at he; subst he; exact .cell _ _ (.inl (.inr rfl))) ?_
  rw [hdst]
  replace s0 := s0.ne (d := 11) (u := (.slice va n cap)) (by decide)
  replace s1 := s1.ne (d := 11) (u := (.slice va n cap)) (by decide)
  replace s2 := s2.ne (d := 11) (u := (.slice va n cap)) (by decide)
  replace s3 := s3.ne (d := 11) (u := (.slice va n cap)) (by decide)
  have s11 : Sl (A.put (some 11) (.slice va n cap)) 11 (.slice va n cap) := Sl.same (by rw [hsz]; decide)
  replace hsz : (A.put (some 11) (.slice va n cap)).tmps.size = 55 := (put_size _ _ _).trans hsz
  replace hdf : (A.put (some 11) (.slice va n cap)).defers = [] := (put_defers _ _ _).trans hdf
  generalize A.put (some 11) (.slice va n cap) = A at *
  clear ho hop hg hdst
  obtain ⟨o, ho, hop, hg, hdst⟩ : ∃ o, (regOps (r1C))[1]? = some o ∧ o.op = .call { callee := .builtin .len, args := #[.tmp 11], argTypes := #[34] } ∧ o.guard = none ∧ o.dst = some 12 := ⟨((regOps (r1C))[1]?).getD default, by kernel_rfl, by kernel_rfl, by kernel_rfl, by kernel_rfl⟩
  refine rt_val hJ hz1 hB ho hg (v := (.int .i64 n)) (fun W z => lenLL hop s11.eval) (fun e he => by simp at he) ?_
  rw [hdst]
  replace s0 := s0.ne (d := 12) (u := (.int .i64 n)) (by decide)
  replace s1 := s1.ne (d := 12) (u := (.int .i64 n)) (by decide)
  replace s2 := s2.ne (d := 12) (u := (.int .i64 n)) (by decide)
  replace s3 := s3.ne (d := 12) (u := (.int .i64 n)) (by decide)
  replace s11 := s11.ne (d := 12) (u := (.int .i64 n)) (by decide)
  have s12 : Sl (A.put (some 12) (.int .i64 n)) 12 (.int .i64 n) := Sl.same (by rw [hsz]; decide)
  replace hsz : (A.put (some 12) (.int .i64 n)).tmps.size = 55 := (put_size _ _ _).trans hsz
  replace hdf : (A.put (some 12) (.int .i64 n)).defers = [] := (put_defers _ _ _).trans hdf
  generalize A.put (some 12) (.int .i64 n) = A at *
  clear ho hop hg hdst
  obtain ⟨o, ho, hop, hg, hdst⟩ : ∃ o, (regOps (r1C))[2]? = some o ∧ o.op = .binOp .gtr 3 (.tmp 12) (.const (.int .i64 200)) 3 ∧ o.guard = none ∧ o.dst = some 13 := ⟨((regOps (r1C))[2]?).getD default, by kernel_rfl, by kernel_rfl, by kernel_rfl, by kernel_rfl⟩
  refine rt_val hJ hz1 hB ho hg (v := (.bool false)) (fun W z => by have q := gtrI (w := W) hop s12.eval (m := 200) rfl; rw [show decide ((n : Int) > 200) = false from by simp; omega] at q; exact q) (fun e he => by simp at he) ?_
  rw [hdst]
  replace s0 := s0.ne (d := 13) (u := (.bool false)) (by decide)
  replace s1 := s1.ne (d := 13) (u := (.bool false)) (by decide)
  replace s2 := s2.ne (d := 13) (u := (.bool false)) (by decide)
  replace s3 := s3.ne (d := 13) (u := (.bool false)) (by decide)
  replace s11 := s11.ne (d := 13) (u := (.bool false)) (by decide)
  replace s12 := s12.ne (d := 13) (u := (.bool false)) (by decide)
  have s13 : Sl (A.put (some 13) (.bool false)) 13 (.bool false) := Sl.same (by rw [hsz]; decide)
  replace hsz : (A.put (some 13) (.bool false)).tmps.size = 55 := (put_size _ _ _).trans hsz
  replace hdf : (A.put (some 13) (.bool false)).defers = [] := (put_defers _ _ _).trans hdf
  generalize A.put (some 13) (.bool false) = A at *
  clear ho hop hg hdst
  obtain ⟨o, ho, hop, hg, hdst⟩ : ∃ o, (regOps (r1C))[3]? = some o ∧ o.op = .assign (.tmp 13) ∧ o.guard = none ∧ o.dst = some 10 := ⟨((regOps (r1C))[3]?).getD default, by kernel_rfl, by kernel_rfl, by kernel_rfl, by kernel_rfl⟩
  refine rt_val hJ hz1 hB ho hg (v := (.bool false)) (fun W z => assign1 hop s13.eval) (fun e he => by simp at he) ?_
  rw [hdst]
  replace s0 := s0.ne (d := 10) (u := (.bool false)) (by decide)
  replace s1 := s1.ne (d := 10) (u := (.bool false)) (by decide)
  replace s2 := s2.ne (d := 10) (u := (.bool false)) (by decide)
  replace s3 := s3.ne (d := 10) (u := (.bool false)) (by decide)
  replace s11 := s11.ne (d := 10) (u := (.bool false)) (by decide)
  replace s12 := s12.ne (d := 10) (u := (.bool false)) (by decide)
  replace s13 := s13.ne (d := 10) (u := (.bool false)) (by decide)
  have s10 : Sl (A.put (some 10) (.bool false)) 10 (.bool false) := Sl.same (by rw [hsz]; decide)
  replace hsz : (A.put (some 10) (.bool false)).tmps.size = 55 := (put_size _ _ _).trans hsz
  replace hdf : (A.put (some 10) (.bool false)).defers = [] := (put_defers _ _ _).trans hdf
  generalize A.put (some 10) (.bool false) = A at *
  clear ho hop hg hdst
  refine rt_region_end hJ hz1 ?_
  refine rt_cond hJ hz1 s10.eval ?_
  simp only [Bool.false_eq_true, if_false]
  refine rt_seq hJ hz1 ?_
  rw [show r3C = .region 3 (regOps (r3C)) false from by kernel_rfl]
  refine rt_region hJ hz1 ?_
  rw [show List.range (regOps (r3C)).size = [0, 1, 2] from by kernel_rfl]
  obtain ⟨o, ho, hop, hg, hdst⟩ : ∃ o, (regOps (r3C))[0]? = some o ∧ o.op = .load 34 (.tmp 1) ∧ o.guard = none ∧ o.dst = some 15 := ⟨((regOps (r3C))[0]?).getD default, by kernel_rfl, by kernel_rfl, by kernel_rfl, by kernel_rfl⟩
  refine rt_val hJ hz1 hB ho hg (v := (.slice va n cap)) (fun W z => loadLL hop s1.eval (cell_of z.2)) (fun e he => by simp at he; subst he; exact .cell _ _ (.inl (.inr rfl))) ?_
  rw [hdst]
  replace s0 := s0.ne (d := 15) (u := (.slice va n cap)) (by decide)
  replace s1 := s1.ne (d := 15) (u := (.slice va n cap)) (by decide)
  replace s2 := s2.ne (d := 15) (u := (.slice va n cap)) (by decide)
  replace s3 := s3.ne (d := 15) (u := (.slice va n cap)) (by decide)
  replace s11 := s11.ne (d := 15) (u := (.slice va n cap)) (by decide)
  replace s12 := s12.ne (d := 15) (u := (.slice va n cap)) (by decide)
  replace s13 := s13.ne (d := 15) (u := (.slice va n cap)) (by decide)
  replace s10 := s10.ne (d := 15) (u := (.slice va n cap)) (by decide)
  have s15 : Sl (A.put (some 15) (.slice va n cap)) 15 (.slice va n cap) := Sl.same (by rw [hsz]; decide)
  replace hsz : (A.put (some 15) (.slice va n cap)).tmps.size = 55 := (put_size _ _ _).trans hsz
  replace hdf : (A.put (some 15) (.slice va n cap)).defers = [] := (put_defers _ _ _).trans hdf
  generalize A.put (some 15) (.slice va n cap) = A at *
  clear ho hop hg hdst
  obtain ⟨o, ho, hop, hg, hdst⟩ : ∃ o, (regOps (r3C))[1]? = some o ∧ o.op = .call { callee := .value (.func 18), args := #[.tmp 15, .func 19], argTypes := #[34, 54] } ∧ o.guard = none ∧ o.dst = some 16 := ⟨((regOps (r3C))[1]?).getD default, by kernel_rfl, by kernel_rfl, by kernel_rfl, by kernel_rfl⟩
  refine rt_contains hJ hz1 hB ho hg hop (n := n) (rl := rl) (V := V) (ls := ls) s15.eval hva hva0 hn2 (fun W z h0 => by obtain ⟨h1, cs, e, y, h2, h3⟩ := hrow1 h0; exact ⟨(hKo rl h1).symm.imp id .inl, cs, e, y, z.1.heap _ _ h1 h2, h3⟩) (fun W z j hj => z.1.cell (hrow1 (by omega)).1 (hlv1 j hj)) (fun W z j hj => ((hent1 j hj).kept fun b o hb ho => z.1.heap b o hb ho).mono fun b hb => (hKo b hb).imp .inl id) (fun j hj => ⟨(hsix j hj).may, by have := (hsix j hj).len; omega⟩) (fun W z => Nat.le_trans hgl1 z.1.size) fun O hO _ => ?_
  rw [hdst]
  replace s0 := s0.ne (d := 16) (u := (.bool false)) (by decide)
  replace s1 := s1.ne (d := 16) (u := (.bool false)) (by decide)
  replace s2 := s2.ne (d := 16) (u := (.bool false)) (by decide)
  replace s3 := s3.ne (d := 16) (u := (.bool false)) (by decide)
  replace s11 := s11.ne (d := 16) (u := (.bool false)) (by decide)
  replace s12 := s12.ne (d := 16) (u := (.bool false)) (by decide)
  replace s13 := s13.ne (d := 16) (u := (.bool false)) (by decide)
  replace s10 := s10.ne (d := 16) (u := (.bool false)) (by decide)
  replace s15 := s15.ne (d := 16) (u := (.bool false)) (by decide)
  have s16 : Sl (A.put (some 16) (.bool false)) 16 (.bool false) := Sl.same (by rw [hsz]; decide)
  replace hsz : (A.put (some 16) (.bool false)).tmps.size = 55 := (put_size _ _ _).trans hsz
  replace hdf : (A.put (some 16) (.bool false)).defers = [] := (put_defers _ _ _).trans hdf
  generalize A.put (some 16) (.bool false) = A at *
  clear ho hop hg hdst
  have hz2 : Stable O (shR lo Gr) fun W => Keep K W1 W ∧ W.heap[bl]? = some (.cells #[.slice va n cap] 34) := hz1.more hO
  clear hz1
  obtain ⟨o, ho, hop, hg, hdst⟩ : ∃ o, (regOps (r3C))[2]? = some o ∧ o.op = .assign (.tmp 16) ∧ o.guard = none ∧ o.dst = some 14 := ⟨((regOps (r3C))[2]?).getD default, by kernel_rfl, by kernel_rfl, by kernel_rfl, by kernel_rfl⟩
  refine rt_val hJ hz2 hB ho hg (v := (.bool false)) (fun W z => assign1 hop s16.eval) (fun e he => by simp at he) ?_
  rw [hdst]
  replace s0 := s0.ne (d := 14) (u := (.bool false)) (by decide)
  replace s1 := s1.ne (d := 14) (u := (.bool false)) (by decide)
  replace s2 := s2.ne (d := 14) (u := (.bool false)) (by decide)
  replace s3 := s3.ne (d := 14) (u := (.bool false)) (by decide)
  replace s11 := s11.ne (d := 14) (u := (.bool false)) (by decide)
  replace s12 := s12.ne (d := 14) (u := (.bool false)) (by decide)
  replace s13 := s13.ne (d := 14) (u := (.bool false)) (by decide)
  replace s10 := s10.ne (d := 14) (u := (.bool false)) (by decide)
  replace s15 := s15.ne (d := 14) (u := (.bool false)) (by decide)
  replace s16 := s16.ne (d := 14) (u := (.bool false)) (by decide)
  have s14 : Sl (A.put (some 14) (.bool false)) 14 (.bool false) := Sl.same (by rw [hsz]; decide)
  replace hsz : (A.put (some 14) (.bool false)).tmps.size = 55 := (put_size _ _ _).trans hsz
  replace hdf : (A.put (some 14) (.bool false)).defers = [] := (put_defers _ _ _).trans hdf
  generalize A.put (some 14) (.bool false) = A at *
  clear ho hop hg hdst
  refine rt_region_end hJ hz2 ?_
  refine rt_cond hJ hz2 s14.eval ?_
  simp only [Bool.false_eq_true, if_false]
  refine rt_skip hJ hz2 ?_
  refine rt_inBlock hJ hz2 ?_
  refine rt_seq hJ hz2 ?_
  refine rt_block hJ hz2 ?_
  refine rt_loop hJ hz2 ?_
  have hRO : ROk lo bl n rl va O (fun b => K b ∨ b = bl) K := ⟨fun b h => h.elim (fun h => (hKo b h).imp (fun h => hO _ (.inl h)) id) fun h => .inl (hO _ (.inr h)), hO _ (.inr rfl), .inr rfl, fun b h => .inl h, hkb, fun h => ⟨hva h, .inl (hrow1 h).1⟩⟩
  refine Rt.mono (Z' := RSt lo bl n cap va rl V ls (fun b => K b ∨ b = bl) K W1) ?_ fun W z => ⟨cell_of z.2, ⟨_, _, z.2⟩, fun j hj => z.1.cell (hrow1 (by omega)).1 (hlv1 j hj), fun j hj => ((hent1 j hj).kept fun b o hb ho => z.1.heap b o hb ho).mono fun b hb => .inl hb, fun b hb => hb.elim (fun h => Nat.lt_of_lt_of_le (hKs b h) z.1.size) fun h => h ▸ heap_lt z.2, Nat.le_trans hlo1 z.1.size, Nat.le_trans hgl1 z.1.size, z.1⟩
  clear hz2 hJ hz
  refine rounds hKs (L := allL n ls) (fun n1 cap1 rl1 va1 V1 ls1 n' Wg' Gr' Own' Rr' A Bd1 h1 hL hO1 hsz hdf s1 => ?_) n cap rl va V ls n0 Wg Gr O _ A Bd hn2 hsix rfl hRO hsz hdf s1
  clear hRO s0 s2 s3 s11 s12 s13 s10 s15 s16 s14
  have hJ := jud_mgo Try.prog W00 lo Post n' (fun _ => none) (tag := .ret) (by simp) Wg' Bd1 0 (shR lo Gr')
  have hz : Stable Own' (shR lo Gr') (RSt lo bl n1 cap1 va1 rl1 V1 ls1 Rr' K W1) := fun W W1 hr z => z.rely hO1 (fun _ h => h) hr
  rw [show (Item.code endC : Item) = _ from congrArg Item.code endC_eq]
  refine rt_seq hJ hz ?_
  refine rt_seq hJ hz ?_
  rw [show r23C = .region 23 (regOps (r23C)) false from by kernel_rfl]
  refine rt_region hJ hz ?_
  rw [show List.range (regOps (r23C)).size = [0, 1, 2] from by kernel_rfl]
  obtain ⟨o, ho, hop, hg, hdst⟩ : ∃ o, (regOps (r23C))[0]? = some o ∧ o.op = .load 34 (.tmp 1) ∧ o.guard = none ∧ o.dst = some 48 := ⟨((regOps (r23C))[0]?).getD default, by kernel_rfl, by kernel_rfl, by kernel_rfl, by kernel_rfl⟩
  refine rt_val hJ hz hB ho hg (v := (.slice va1 n1 cap1)) (fun W z => loadLL hop s1.eval z.cl) (fun e he => by simp at he; subst he; exact .cell _ _ (.inl hO1.obl)) ?_
  rw [hdst]
  replace s1 := s1.ne (d := 48) (u := (.slice va1 n1 cap1)) (by decide)
  have s48 : Sl (A.put (some 48) (.slice va1 n1 cap1)) 48 (.slice va1 n1 cap1) := Sl.same (by rw [hsz]; decide)
  replace hsz : (A.put (some 48) (.slice va1 n1 cap1)).tmps.size = 55 := (put_size _ _ _).trans hsz
  replace hdf : (A.put (some 48) (.slice va1 n1 cap1)).defers = [] := (put_defers _ _ _).trans hdf
  generalize A.put (some 48) (.slice va1 n1 cap1) = A at *
  clear ho hop hg hdst
  obtain ⟨o, ho, hop, hg, hdst⟩ : ∃ o, (regOps (r23C))[1]? = some o ∧ o.op = .call { callee := .builtin .len, args := #[.tmp 48], argTypes := #[34] } ∧ o.guard = none ∧ o.dst = some 49 := ⟨((regOps (r23C))[1]?).getD default, by kernel_rfl, by kernel_rfl, by kernel_rfl, by kernel_rfl⟩
  refine rt_val hJ hz hB ho hg (v := (.int .i64 n1)) (fun W z => lenLL hop s48.eval) (fun e he => by simp at he) ?_
  rw [hdst]
  replace s1 := s1.ne (d := 49) (u := (.int .i64 n1)) (by decide)
  replace s48 := s48.ne (d := 49) (u := (.int .i64 n1)) (by decide)
  have s49 : Sl (A.put (some 49) (.int .i64 n1)) 49 (.int .i64 n1) := Sl.same (by rw [hsz]; decide)
  replace hsz : (A.put (some 49) (.int .i64 n1)).tmps.size = 55 := (put_size _ _ _).trans hsz
  replace hdf : (A.put (some 49) (.int .i64 n1)).defers = [] := (put_defers _ _ _).trans hdf
  generalize A.put (some 49) (.int .i64 n1) = A at *
  clear ho hop hg hdst
  obtain ⟨o, ho, hop, hg, hdst⟩ : ∃ o, (regOps (r23C))[2]? = some o ∧ o.op = .binOp .eql 3 (.tmp 49) (.const (.int .i64 0)) 3 ∧ o.guard = none ∧ o.dst = some 50 := ⟨((regOps (r23C))[2]?).getD default, by kernel_rfl, by kernel_rfl, by kernel_rfl, by kernel_rfl⟩
  refine rt_val hJ hz hB ho hg (v := (.bool ((n1 : Int) == 0))) (fun W z => by have q := eqI (w := W) hop s49.eval (m := 0) rfl; exact q) (fun e he => by simp at he) ?_
  rw [hdst]
  replace s1 := s1.ne (d := 50) (u := (.bool ((n1 : Int) == 0))) (by decide)
  replace s48 := s48.ne (d := 50) (u := (.bool ((n1 : Int) == 0))) (by decide)
  replace s49 := s49.ne (d := 50) (u := (.bool ((n1 : Int) == 0))) (by decide)
  have s50 : Sl (A.put (some 50) (.bool ((n1 : Int) == 0))) 50 (.bool ((n1 : Int) == 0)) := Sl.same (by rw [hsz]; decide)
  replace hsz : (A.put (some 50) (.bool ((n1 : Int) == 0))).tmps.size = 55 := (put_size _ _ _).trans hsz
  replace hdf : (A.put (some 50) (.bool ((n1 : Int) == 0))).defers = [] := (put_defers _ _ _).trans hdf
  generalize A.put (some 50) (.bool ((n1 : Int) == 0)) = A at *
  clear ho hop hg hdst
  refine rt_region_end hJ hz ?_
  refine rt_cond hJ hz s50.eval ?_
  rw [allL_one h1] at hL
  by_cases h0 : n1 = 0
  · subst h0
    simp only [Int.natCast_zero, BEq.rfl, if_true]
    rw [if_pos rfl] at hL
    refine rt_seq hJ hz ?_
    rw [show r24C = .region 24 (regOps (r24C)) false from by kernel_rfl]
    refine rt_region hJ hz ?_
    rw [show List.range (regOps (r24C)).size = [0, 1] from by kernel_rfl]
    obtain ⟨o, ho, hop, hg, hdst⟩ : ∃ o, (regOps (r24C))[0]? = some o ∧ o.op = .assign (.const (.slice none 0 0)) ∧ o.guard = none ∧ o.dst = some 2 := ⟨((regOps (r24C))[0]?).getD default, by kernel_rfl, by kernel_rfl, by kernel_rfl, by kernel_rfl⟩
    refine rt_val hJ hz hB ho hg (v := (.slice none 0 0)) (fun W z => assign1 hop rfl) (fun e he => by simp at he) ?_
    rw [hdst]
    replace s1 := s1.ne (d := 2) (u := (.slice none 0 0)) (by decide)
    replace s48 := s48.ne (d := 2) (u := (.slice none 0 0)) (by decide)
    replace s49 := s49.ne (d := 2) (u := (.slice none 0 0)) (by decide)
    replace s50 := s50.ne (d := 2) (u := (.slice none 0 0)) (by decide)
    have s2 : Sl (A.put (some 2) (.slice none 0 0)) 2 (.slice none 0 0) := Sl.same (by rw [hsz]; decide)
    replace hsz : (A.put (some 2) (.slice none 0 0)).tmps.size = 55 := (put_size _ _ _).trans hsz
    replace hdf : (A.put (some 2) (.slice none 0 0)).defers = [] := (put_defers _ _ _).trans hdf
    generalize A.put (some 2) (.slice none 0 0) = A at *
    clear ho hop hg hdst
    obtain ⟨o, ho, hop, hg, hdst⟩ : ∃ o, (regOps (r24C))[1]? = some o ∧ o.op = .assign (.const (.int .i64 0)) ∧ o.guard = none ∧ o.dst = some 3 := ⟨((regOps (r24C))[1]?).getD default, by kernel_rfl, by kernel_rfl, by kernel_rfl, by kernel_rfl⟩
    refine rt_val hJ hz hB ho hg (v := (.int .i64 0)) (fun W z => assign1 hop rfl) (fun e he => by simp at he) ?_
    rw [hdst]
    replace s1 := s1.ne (d := 3) (u := (.int .i64 0)) (by decide)
    replace s48 := s48.ne (d := 3) (u := (.int .i64 0)) (by decide)
    replace s49 := s49.ne (d := 3) (u := (.int .i64 0)) (by decide)
    replace s50 := s50.ne (d := 3) (u := (.int .i64 0)) (by decide)
    replace s2 := s2.ne (d := 3) (u := (.int .i64 0)) (by decide)
    have s3 : Sl (A.put (some 3) (.int .i64 0)) 3 (.int .i64 0) := Sl.same (by rw [hsz]; decide)
    replace hsz : (A.put (some 3) (.int .i64 0)).tmps.size = 55 := (put_size _ _ _).trans hsz
    replace hdf : (A.put (some 3) (.int .i64 0)).defers = [] := (put_defers _ _ _).trans hdf
    generalize A.put (some 3) (.int .i64 0) = A at *
    clear ho hop hg hdst
    refine rt_region_end hJ hz ?_
    refine rt_ret hJ hz fun W z => hleave n' Wg' Bd1 Gr' Own' Own' A _ _ hdf s2 s3 (fun b hb => hO1.own b (hO1.rK b hb)) W ⟨z.keep, by rw [← hL]; exact ent_nil _ _⟩
  · have h01 : n1 = 1 := by omega
    subst h01
    simp only [show (((1 : Nat) : Int) == 0) = false from by decide, Bool.false_eq_true, if_false]
    rw [if_neg (by omega)] at hL
    obtain ⟨hva1, hrl1⟩ := hO1.va (by omega)
    have hsx : (allL n ls).length ≤ 8 := by have := (allL_six n ls hsix).len; omega
    refine rt_skip hJ hz ?_
    refine rt_seq hJ hz ?_
    rw [show r25C = .region 25 (regOps (r25C)) false from by kernel_rfl]
    refine rt_region hJ hz ?_
    rw [show List.range (regOps (r25C)).size = [0, 1, 2, 3, 4, 5] from by kernel_rfl]
    obtain ⟨o, ho, hop, hg, hdst⟩ : ∃ o, (regOps (r25C))[0]? = some o ∧ o.op = .load 34 (.tmp 1) ∧ o.guard = none ∧ o.dst = some 51 := ⟨((regOps (r25C))[0]?).getD default, by kernel_rfl, by kernel_rfl, by kernel_rfl, by kernel_rfl⟩
    refine rt_val hJ hz hB ho hg (v := (.slice va1 1 cap1)) (fun W z => loadLL hop s1.eval z.cl) (fun e he => by simp at he; subst he; exact .cell _ _ (.inl hO1.obl)) ?_
    rw [hdst]
    replace s1 := s1.ne (d := 51) (u := (.slice va1 1 cap1)) (by decide)
    replace s48 := s48.ne (d := 51) (u := (.slice va1 1 cap1)) (by decide)
    replace s49 := s49.ne (d := 51) (u := (.slice va1 1 cap1)) (by decide)
    replace s50 := s50.ne (d := 51) (u := (.slice va1 1 cap1)) (by decide)
    have s51 : Sl (A.put (some 51) (.slice va1 1 cap1)) 51 (.slice va1 1 cap1) := Sl.same (by rw [hsz]; decide)
    replace hsz : (A.put (some 51) (.slice va1 1 cap1)).tmps.size = 55 := (put_size _ _ _).trans hsz
    replace hdf : (A.put (some 51) (.slice va1 1 cap1)).defers = [] := (put_defers _ _ _).trans hdf
    generalize A.put (some 51) (.slice va1 1 cap1) = A at *
    clear ho hop hg hdst
    obtain ⟨o, ho, hop, hg, hdst⟩ : ∃ o, (regOps (r25C))[1]? = some o ∧ o.op = .indexAddr 34 (.tmp 51) (.const (.int .i64 0)) ∧ o.guard = none ∧ o.dst = some 52 := ⟨((regOps (r25C))[1]?).getD default, by kernel_rfl, by kernel_rfl, by kernel_rfl, by kernel_rfl⟩
    refine rt_val hJ hz hB ho hg (v := (.pointer (some ⟨rl1, 0, none⟩))) (fun W z => ixLL (k := 0) hop (hva1 ▸ s51.eval) rfl (by omega) (by omega)) (fun e he => by simp at he) ?_
    rw [hdst]
    replace s1 := s1.ne (d := 52) (u := (.pointer (some ⟨rl1, 0, none⟩))) (by decide)
    replace s48 := s48.ne (d := 52) (u := (.pointer (some ⟨rl1, 0, none⟩))) (by decide)
    replace s49 := s49.ne (d := 52) (u := (.pointer (some ⟨rl1, 0, none⟩))) (by decide)
    replace s50 := s50.ne (d := 52) (u := (.pointer (some ⟨rl1, 0, none⟩))) (by decide)
    replace s51 := s51.ne (d := 52) (u := (.pointer (some ⟨rl1, 0, none⟩))) (by decide)
    have s52 : Sl (A.put (some 52) (.pointer (some ⟨rl1, 0, none⟩))) 52 (.pointer (some ⟨rl1, 0, none⟩)) := Sl.same (by rw [hsz]; decide)
    replace hsz : (A.put (some 52) (.pointer (some ⟨rl1, 0, none⟩))).tmps.size = 55 := (put_size _ _ _).trans hsz
    replace hdf : (A.put (some 52) (.pointer (some ⟨rl1, 0, none⟩))).defers = [] := (put_defers _ _ _).trans hdf
    generalize A.put (some 52) (.pointer (some ⟨rl1, 0, none⟩)) = A at *
    clear ho hop hg hdst
    obtain ⟨o, ho, hop, hg, hdst⟩ : ∃ o, (regOps (r25C))[2]? = some o ∧ o.op = .load 35 (.tmp 52) ∧ o.guard = none ∧ o.dst = some 53 := ⟨((regOps (r25C))[2]?).getD default, by kernel_rfl, by kernel_rfl, by kernel_rfl, by kernel_rfl⟩
    refine rt_val hJ hz hB ho hg (v := (V1 0)) (fun W z => loadL hop s52.eval (z.lv 0 (by omega))) (fun e he => by simp at he; subst he; exact .cell _ _ ((hO1.own _ hrl1).imp id fun h => .inl ⟨h, rfl⟩)) ?_
    rw [hdst]
    replace s1 := s1.ne (d := 53) (u := (V1 0)) (by decide)
    replace s48 := s48.ne (d := 53) (u := (V1 0)) (by decide)
    replace s49 := s49.ne (d := 53) (u := (V1 0)) (by decide)
    replace s50 := s50.ne (d := 53) (u := (V1 0)) (by decide)
    replace s51 := s51.ne (d := 53) (u := (V1 0)) (by decide)
    replace s52 := s52.ne (d := 53) (u := (V1 0)) (by decide)
    have s53 : Sl (A.put (some 53) (V1 0)) 53 (V1 0) := Sl.same (by rw [hsz]; decide)
    replace hsz : (A.put (some 53) (V1 0)).tmps.size = 55 := (put_size _ _ _).trans hsz
    replace hdf : (A.put (some 53) (V1 0)).defers = [] := (put_defers _ _ _).trans hdf
    generalize A.put (some 53) (V1 0) = A at *
    clear ho hop hg hdst
    obtain ⟨o, ho, hop, hg, hdst⟩ : ∃ o, (regOps (r25C))[3]? = some o ∧ o.op = .call { callee := .value (.func 24), args := #[.tmp 53], argTypes := #[35] } ∧ o.guard = none ∧ o.dst = some 54 := ⟨((regOps (r25C))[3]?).getD default, by kernel_rfl, by kernel_rfl, by kernel_rfl, by kernel_rfl⟩
    refine rt_clone hJ hz hB ho hg hop s53.eval (a := allL n ls) (fun W z => by rw [← hL]; exact (z.ent 0 (by omega)).mono fun b hb => hO1.own b hb) hsx (fun W z => z.gl) fun O2 V' hO2 _ => ?_
    rw [hdst]
    replace s1 := s1.ne (d := 54) (u := V') (by decide)
    replace s48 := s48.ne (d := 54) (u := V') (by decide)
    replace s49 := s49.ne (d := 54) (u := V') (by decide)
    replace s50 := s50.ne (d := 54) (u := V') (by decide)
    replace s51 := s51.ne (d := 54) (u := V') (by decide)
    replace s52 := s52.ne (d := 54) (u := V') (by decide)
    replace s53 := s53.ne (d := 54) (u := V') (by decide)
    have s54 : Sl (A.put (some 54) V') 54 V' := Sl.same (by rw [hsz]; decide)
    replace hsz : (A.put (some 54) V').tmps.size = 55 := (put_size _ _ _).trans hsz
    replace hdf : (A.put (some 54) V').defers = [] := (put_defers _ _ _).trans hdf
    generalize A.put (some 54) V' = A at *
    clear ho hop hg hdst
    have hz3 : Stable O2 (shR lo Gr') fun W => RSt lo bl 1 cap1 va1 rl1 V1 ls1 Rr' K W1 W ∧ REnt (fun b => O2 b ∨ (shR lo Gr') b) W V' (allL n ls) := Stable.and (hz.more hO2) fun W W1 hr z => z.rely hr fun b hb => hb
    obtain ⟨o, ho, hop, hg, hdst⟩ : ∃ o, (regOps (r25C))[4]? = some o ∧ o.op = .assign (.tmp 54) ∧ o.guard = none ∧ o.dst = some 2 := ⟨((regOps (r25C))[4]?).getD default, by kernel_rfl, by kernel_rfl, by kernel_rfl, by kernel_rfl⟩
    refine rt_val hJ hz3 hB ho hg (v := V') (fun W z => assign1 hop s54.eval) (fun e he => by simp at he) ?_
    rw [hdst]
    replace s1 := s1.ne (d := 2) (u := V') (by decide)
    replace s48 := s48.ne (d := 2) (u := V') (by decide)
    replace s49 := s49.ne (d := 2) (u := V') (by decide)
    replace s50 := s50.ne (d := 2) (u := V') (by decide)
    replace s51 := s51.ne (d := 2) (u := V') (by decide)
    replace s52 := s52.ne (d := 2) (u := V') (by decide)
    replace s53 := s53.ne (d := 2) (u := V') (by decide)
    replace s54 := s54.ne (d := 2) (u := V') (by decide)
    have s2 : Sl (A.put (some 2) V') 2 V' := Sl.same (by rw [hsz]; decide)
    replace hsz : (A.put (some 2) V').tmps.size = 55 := (put_size _ _ _).trans hsz
    replace hdf : (A.put (some 2) V').defers = [] := (put_defers _ _ _).trans hdf
    generalize A.put (some 2) V' = A at *
    clear ho hop hg hdst
    obtain ⟨o, ho, hop, hg, hdst⟩ : ∃ o, (regOps (r25C))[5]? = some o ∧ o.op = .assign (.const (.int .i64 0)) ∧ o.guard = none ∧ o.dst = some 3 := ⟨((regOps (r25C))[5]?).getD default, by kernel_rfl, by kernel_rfl, by kernel_rfl, by kernel_rfl⟩
    refine rt_val hJ hz3 hB ho hg (v := (.int .i64 0)) (fun W z => assign1 hop rfl) (fun e he => by simp at he) ?_
    rw [hdst]
    replace s1 := s1.ne (d := 3) (u := (.int .i64 0)) (by decide)
    replace s48 := s48.ne (d := 3) (u := (.int .i64 0)) (by decide)
    replace s49 := s49.ne (d := 3) (u := (.int .i64 0)) (by decide)
    replace s50 := s50.ne (d := 3) (u := (.int .i64 0)) (by decide)
    replace s51 := s51.ne (d := 3) (u := (.int .i64 0)) (by decide)
    replace s52 := s52.ne (d := 3) (u := (.int .i64 0)) (by decide)
    replace s53 := s53.ne (d := 3) (u := (.int .i64 0)) (by decide)
    replace s54 := s54.ne (d := 3) (u := (.int .i64 0)) (by decide)
    replace s2 := s2.ne (d := 3) (u := (.int .i64 0)) (by decide)
    have s3 : Sl (A.put (some 3) (.int .i64 0)) 3 (.int .i64 0) := Sl.same (by rw [hsz]; decide)
    replace hsz : (A.put (some 3) (.int .i64 0)).tmps.size = 55 := (put_size _ _ _).trans hsz
    replace hdf : (A.put (some 3) (.int .i64 0)).defers = [] := (put_defers _ _ _).trans hdf
    generalize A.put (some 3) (.int .i64 0) = A at *
    clear ho hop hg hdst
    refine rt_region_end hJ hz3 ?_
    refine rt_ret hJ hz3 fun W z => hleave n' Wg' Bd1 Gr' Own' O2 A V' _ hdf s2 s3 (fun b hb => (hO1.own b (hO1.rK b hb)).imp (hO2 b) id) W ⟨z.1.keep, z.2⟩
end
end Go.Proofs.Ytkodpijedinanaa.Sim
