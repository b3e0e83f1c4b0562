/- Package hold: Play; the laws' stocked, shelfSure. -/
import Derived.Test.YtgmichaconnhaaaHoldY
import Derived.Test.YtgmichaconnhaaaSameI
namespace Go.Proofs.Ytgmichaconnhaaa
open Go.ChangeShapes Go.WideShapes Go.ChangeAt Go.RowKit
set_option linter.unusedVariables false
set_option linter.unusedSimpArgs false

def Ord.cells (o : Ord) : List Value := [.int .i64 o.kind, .int .i64 o.count, .int .i64 o.life, .int .i64 o.id]
theorem Ord.cells_length (o : Ord) : o.cells.length = 4 := rfl
def ords (l : List Ord) : List Value := l.flatMap Ord.cells
theorem ords_length (l : List Ord) : (ords l).length = l.length * 4 := flat_length Ord.cells 4 Ord.cells_length l
def Stk.cells (x : Stk) : List Value := [.int .i64 x.code, .int .i64 x.id, .int .i64 x.free, .int .i64 x.held, .int .i64 x.used]
theorem Stk.cells_length (x : Stk) : x.cells.length = 5 := rfl
def stks (l : List Stk) : List Value := l.flatMap Stk.cells
theorem ords_one (l : List Ord) : (ords l).all Value.oneCell' = true := by
  rw [List.all_eq_true]; intro v hv
  simp only [ords, List.mem_flatMap] at hv
  obtain ⟨p, _, h⟩ := hv
  simp [Ord.cells] at h
  rcases h with rfl | rfl | rfl | rfl <;> rfl
/-- What order k of a row reads. -/
theorem ord_get {w : World} {v : Value} {l : List Ord} {n : Nat} (h : Has w 4 v n (ords l)) (k : Nat) (hk : k < l.length) :
    ∃ b off cap, v = .slice (some ⟨b, off, none⟩) n cap ∧ (n ≤ cap ∧ cap ≤ maxLen) ∧ (w.cell? ⟨b, off + k * 4, none⟩ = some (.int .i64 l[k].kind) ∧ w.cell? ⟨b, off + k * 4 + 1, none⟩ = some (.int .i64 l[k].count) ∧ w.cell? ⟨b, off + k * 4 + 2, none⟩ = some (.int .i64 l[k].life) ∧ w.cell? ⟨b, off + k * 4 + 3, none⟩ = some (.int .i64 l[k].id)) := by
  obtain ⟨⟨hl, _⟩, a, cap, rfl, h1, h2, hc⟩ := h
  obtain ⟨b, off, rfl, hcc⟩ := hc (by rw [ords_length]; omega)
  have g := fun j (hj : j < 4) u (hu : (l[k].cells)[j]? = some u) => hcc (k * 4 + j) u (by unfold ords; rw [flat_get Ord.cells 4 Ord.cells_length l k hk j hj]; exact hu)
  have g0 := g 0 (by omega) _ rfl
  have g1 := g 1 (by omega) _ rfl
  have g2 := g 2 (by omega) _ rfl
  have g3 := g 3 (by omega) _ rfl
  rw [Nat.add_zero] at g0
  rw [← Nat.add_assoc] at g1 g2 g3
  exact ⟨b, off, cap, rfl, ⟨h1, h2⟩, g0, g1, g2, g3⟩
/-- What stock k of a row reads. -/
theorem stk_get {w : World} {base n : Nat} {v : Value} {l : List Stk} (h : w.ownsRow base 33 5 v n (stks l)) (k : Nat) (hk : k < l.length) :
    ∃ g cap, v = .slice (some ⟨g, 0, none⟩) n cap ∧ (n ≤ cap ∧ cap ≤ maxLen) ∧ (w.cell? ⟨g, k * 5, none⟩ = some (.int .i64 l[k].code) ∧ w.cell? ⟨g, k * 5 + 1, none⟩ = some (.int .i64 l[k].id) ∧ w.cell? ⟨g, k * 5 + 2, none⟩ = some (.int .i64 l[k].free) ∧ w.cell? ⟨g, k * 5 + 3, none⟩ = some (.int .i64 l[k].held) ∧ w.cell? ⟨g, k * 5 + 4, none⟩ = some (.int .i64 l[k].used)) := by
  have hn : n = l.length := by have h1 := h.1; have h2 : (stks l).length = l.length * 5 := flat_length Stk.cells 5 Stk.cells_length l; omega
  obtain ⟨_, _, _, he0, hc1, hc2, _⟩ := Has.of_owns h
  obtain ⟨g, cap, rfl, _, _, _, hcc⟩ := owns_some h (by omega)
  simp only [Value.slice.injEq] at he0
  obtain ⟨-, -, rfl⟩ := he0
  have gg := fun j (hj : j < 5) u (hu : (l[k].cells)[j]? = some u) => hcc (k * 5 + j) u (by unfold stks; rw [flat_get Stk.cells 5 Stk.cells_length l k hk j hj]; exact hu)
  have g0 := gg 0 (by omega) _ rfl
  rw [Nat.add_zero] at g0
  exact ⟨g, cap, rfl, ⟨hc1, hc2⟩, g0, gg 1 (by omega) _ rfl, gg 2 (by omega) _ rfl, gg 3 (by omega) _ rfl, gg 4 (by omega) _ rfl⟩
theorem elStock : Elem Try.prog 33 5 40 (.agg #[.int .i64 0, .int .i64 0, .int .i64 0, .int .i64 0, .int .i64 0]) := .of (by kernel_rfl) rfl (by decide)
theorem elOrder : Elem Try.prog 30 4 32 (.agg #[.int .i64 0, .int .i64 0, .int .i64 0, .int .i64 0]) := .of (by kernel_rfl) rfl (by decide)
/-- What stands behind k orders. -/
structure PlayH (w wr : World) (S k : Nat) (l : List Ord) (out : Value) : Prop where
  sh : ShfAt wr w.heap.size S (shfFold (l.take k)).1
  out : wr.ownsRow w.heap.size 33 5 out k (stks (shfFold (l.take k)).2)
  hb : Below w.heap.size w wr
theorem playH_step {w wr X w5 w6 : World} {S k : Nat} {l : List Ord} {out out' : Value} (h : PlayH w wr S k l out) (hk : k < l.length) (hX : Below wr.heap.size wr X)
    (hd : Ordered w.heap.size S (shfFold (l.take k)).1 ((shfFold (l.take k)).1.next l[k]) X w5)
    (ho : w6.ownsRow w.heap.size 33 5 out' (k + 1) (stks (shfFold (l.take k)).2 ++ ((shfFold (l.take k)).1.out l[k]).cells)) (hg : w5.grownBy w6 out.ownBlock) (hb6 : Below w.heap.size w5 w6) : PlayH w w6 S (k + 1) l out' := by
  have ho5 := owns_chc (owns_below h.out hX) hd.hc (by decide)
  have hch := Chc.grown (T := [33]) ho5 hg (by simp)
  refine ⟨?_, ?_, ((h.hb.trans (hX.mono h.hb.size)).trans hd.hb).trans hb6⟩
  · rw [shfFold_take l k hk]
    exact hd.sh.chc hch (by decide) (by decide)
  · rw [shfFold_take l k hk]
    have := flat_snoc Stk.cells (shfFold (l.take k)).2 ((shfFold (l.take k)).1.out l[k])
    unfold stks at ho ⊢
    simp only [shfStep]
    rw [← this]; exact ho
set_option maxRecDepth 100000 in
set_option maxHeartbeats 4000000 in
theorem chPlay (v : Value) (l : List Ord) (w : World) (h : Has w 4 v l.length (ords l)) (hok : ∀ x ∈ l, x.Ok) (hlen : l.length ≤ 300) :
    Calls Try.prog 32 #[v] w fun e w' => ∃ v', e = .returned (.tuple #[v', .int .i64 0]) ∧ w'.ownsRow w.heap.size 33 5 v' l.length (stks (hOuts l)) ∧ Below w.heap.size w w' := by
  have H := Lib.hid h
  have Hok := Lib.hid hok
  obtain ⟨⟨hl2, hnil⟩, ad, cap, rfl, hcn, hcm, hc⟩ := h
  unfold maxLen at hcm
  clear hok hc hl2 hnil
  go_enter Try.func32, Try.ntmps32
  go_wp2_with fail
  have hnew := heap_alloc_new w (.cells #[.int .i64 0, .int .i64 0, .int .i64 0, .slice none 0 0] 103)
  have hb0 : Below w.heap.size w (w.alloc (.cells #[.int .i64 0, .int .i64 0, .int .i64 0, .slice none 0 0] 103)) := (Below.refl _ _).alloc (Nat.le_refl _) _
  have H0 : Hid (PlayH w (w.alloc (.cells #[.int .i64 0, .int .i64 0, .int .i64 0, .slice none 0 0] 103)) w.heap.size 0 l (.slice none 0 0)) :=
    ⟨⟨⟨_, hnew, World.ownsRow_nil _ _ _ _⟩, shf0_ok, Nat.le_refl _⟩, World.ownsRow_nil _ _ _ _, hb0⟩
  generalize w.alloc (.cells #[.int .i64 0, .int .i64 0, .int .i64 0, .slice none 0 0] 103) = W at *
  clear hnew hb0
  go_loopw [5, 15] (fun out i wr => ∃ k : Nat, k ≤ l.length ∧ i = .int .i64 k ∧ PlayH w wr w.heap.size k l out) (fun _ i _ => l.length - (intOf i).toNat)
  case atStart => exact ⟨0, by omega, rfl, H0.out⟩
  case round =>
    clear H0
    obtain ⟨k, hk, rfl, hP⟩ := hrel
    have HP := Lib.hid hP
    clear hP
    by_cases hlt : k < l.length
    · obtain ⟨b, off, cap', he, -, x0, x1, x2, x3⟩ := ord_get H.out k hlt
      simp only [Value.slice.injEq] at he
      obtain ⟨rfl, -, rfl⟩ := he
      replace x0 := cell_on HP.out.hb x0
      replace x1 := cell_on HP.out.hb x1
      replace x2 := cell_on HP.out.hb x2
      replace x3 := cell_on HP.out.hb x3
      have hbl := World.block_lt_of_cell? wr _ x0
      have hxok := Hok.out _ (List.getElem_mem hlt)
      have ha : Below wr.heap.size wr (wr.alloc (.cells #[.int .i64 l[k].kind, .int .i64 l[k].count, .int .i64 l[k].life, .int .i64 l[k].id] 30)) := (Below.refl _ _).alloc (Nat.le_refl _) _
      have hmd := fold_made l k (by omega)
      have CM := Lib.hid (cDo (HP.out.sh.on ha) l[k] hxok (by omega))
      have Hst := Lib.hid (fun w5 w6 out' hd ho hg hb6 => playH_step (w5 := w5) (w6 := w6) (out' := out') HP.out hlt ha hd ho hg hb6)
      have Hown := Lib.hid (fun (w5 : World) (hd : Ordered w.heap.size w.heap.size (shfFold (l.take k)).1 ((shfFold (l.take k)).1.next l[k]) (wr.alloc (.cells #[.int .i64 l[k].kind, .int .i64 l[k].count, .int .i64 l[k].life, .int .i64 l[k].id] 30)) w5) => owns_chc (owns_below HP.out.out ha) hd.hc (by decide))
      have hsz := HP.out.hb.size
      generalize (shfFold (l.take k)).1 = s at *
      generalize l[k] = x at *
      have hsza : wr.heap.size ≤ (wr.alloc (.cells #[.int .i64 x.kind, .int .i64 x.count, .int .i64 x.life, .int .i64 x.id] 30)).heap.size := ha.size
      clear hxok ha
      unfold Ord.val at CM
      go_wp2_with fail
      refine CM.out.mono ?_
      rintro e w5 ⟨rfl, hd5⟩
      have ho5 := Lib.hid (Hown.out _ hd5)
      have HD5 := Lib.hid hd5
      have hsz5 : w.heap.size ≤ w5.heap.size := Nat.le_trans (Nat.le_trans hsz hsza) hd5.hc.size
      have Hst5 := Lib.hid (fun w6 out' ho hg hb6 => Hst.out w5 w6 out' hd5 ho hg hb6)
      unfold Stk.val
      unfold Stk.cells at Hst5
      generalize (s.out x).code = r0 at *
      generalize (s.out x).id = r1 at *
      generalize (s.out x).free = r2 at *
      generalize (s.out x).held = r3 at *
      generalize (s.out x).used = r4 at *
      clear hd5 CM x0 x1 x2 x3 Hst Hown HD5
      go_wp2_with (at_builtin; refine wp_app1 (w0 := w5) 25 33 5 40 _ elStock Try.underlying25 w.heap.size _ _ _ ho5.out (by repeat (first | exact Below.refl _ _ | refine Below.drew ?_ | refine Below.alloc ?_ (by first | (simp; done) | (simp; omega)) _ | refine Below.setCell ?_ (by first | (simp; done) | (simp; omega)) _)) [.int .i64 r0, .int .i64 r1, .int .i64 r2, .int .i64 r3, .int .i64 r4] rfl _ _ rfl rfl rfl (by first | exact heap_alloc_new _ _ | (simp only [heap_drew, heap_drewN]; exact heap_alloc_new _ _)) (by simp) rfl rfl (by omega) (by omega) hsz5 ?_; intro v6 w6 hown6 hgrow6 hb6)
      have hP' := Hst5.out _ _ hown6 hgrow6 hb6
      go_roundw
      case rel => exact ⟨k + 1, by omega, by go_num, hP'⟩
      case measure => simp [intOf]; omega
    · obtain rfl : k = l.length := by omega
      have ho : Hid (wr.ownsRow w.heap.size 33 5 u5 l.length (stks (hOuts l))) := by have := HP.out.out; rwa [List.take_length] at this
      have hb := Lib.hid HP.out.hb
      clear HP
      go_wp2
      go_ret2
      exact ⟨_, rfl, ho.out, hb.out⟩
end Go.Proofs.Ytgmichaconnhaaa
