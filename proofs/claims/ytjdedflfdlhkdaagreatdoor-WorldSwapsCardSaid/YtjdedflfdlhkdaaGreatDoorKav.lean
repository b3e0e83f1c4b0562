/- Texts that the claim imports, laid together: FrmI WLaw Door Open OpenR OpenDo. No statement of their own. -/
import Derived.ProofKit
import Derived.OpenShut
import Derived.LaidMore
import Derived.LaidSub
import Derived.Lay
import Derived.Lib.LaidTab
import Derived.Stop.Joined
import Derived.Lib.SmallJoins
import Derived.Deep.Slices
import Derived.Deep.Fields
import Derived.Test.YtjdedflfdlhkdaaGreatDoorKaa
import Derived.Test.YtjdedflfdlhkdaaGreatDoorKac
import Derived.Test.YtjdedflfdlhkdaaGreatDoorKaf
import Derived.Test.YtjdedflfdlhkdaaGreatDoorKag
import Derived.Test.YtjdedflfdlhkdaaGreatDoorKak
import Derived.Test.YtjdedflfdlhkdaaGreatDoorKan
import Derived.Test.YtjdedflfdlhkdaaGreatDoorKap
import Derived.Test.YtjdedflfdlhkdaaGreatDoorKat
import Derived.Test.YtjdedflfdlhkdaaGreatDoorKau
namespace Go.Proofs.YtjdedflfdlhkdaaGreatDoor
open Go.ChangeShapes Go.WideShapes Go.ChangeAt Go.RowKit
set_option linter.unusedVariables false
set_option linter.unusedSimpArgs false

/-- The laws' config. -/
def cfgOf (ls : List Int) (ticks minted most : Int) : Cfg := ⟨4, labsOf ls, 1 + pn ticks 4, [pick minted 60, pick (minted.tdiv 60) 60], pn most 20⟩
theorem cfgOf_ok (ls : List Int) (ticks minted most : Int) : (cfgOf ls ticks minted most).Ok := by
  have h1 := (pn_eq ticks 4 (by omega)).2
  have h2 := (pn_eq most 20 (by omega)).2
  have h3 := pick_bd minted 60 (by omega)
  have h4 := pick_bd (minted.tdiv 60) 60 (by omega)
  refine ⟨by simp [cfgOf], by simp [cfgOf, labsK_len, labsOf], fun x hx => labsK_lt ls 3 x hx, by simp only [cfgOf]; omega, by simp [cfgOf], fun x hx => ?_, by simp only [cfgOf]; omega⟩
  simp only [cfgOf, List.mem_cons, List.not_mem_nil, or_false] at hx
  rcases hx with rfl | rfl <;> omega
set_option maxRecDepth 100000 in
set_option maxHeartbeats 4000000 in
theorem cConfigOf {w : World} {v : Value} {ls : List Int} (ticks minted most : Int) (h : Has w 1 v ls.length (ints ls)) (hm : (Lit.int .i64 minted).wf = true) :
    Calls Tryz.prog 11 #[v, .int .i64 ticks, .int .i64 minted, .int .i64 most] w fun e w' => ∃ g cl gm, e = .returned (.agg ((cfgOf ls ticks minted most).cells (.slice (some ⟨g, 0, none⟩) 3 cl) (.slice (some ⟨gm, 0, none⟩) 2 2))) ∧ CfgAt w' (cfgOf ls ticks minted most) (.slice (some ⟨g, 0, none⟩) 3 cl) (.slice (some ⟨gm, 0, none⟩) 2 2) ∧ Below w.heap.size w w' := by
  have hbz : Below w.heap.size w (w.alloc (.cells #[.int .i64 0, .slice none 0 0, .int .i64 0, .slice none 0 0, .int .i64 0] 25)) := (Below.refl _ _).alloc (Nat.le_refl _) _
  have C0 := Lib.hid (cLabelsOf (h.below hbz))
  have hwf := wf64_iff.1 hm
  have hq : IntKind.i64.wrap (minted.tdiv 60) = minted.tdiv 60 := IntWalk.i64_in _ (by
    constructor
    · rcases Int.le_total 0 minted with hp | hp
      · have := Int.tdiv_nonneg hp (show (0 : Int) ≤ 60 by omega); omega
      · have e : minted.tdiv 60 = -((-minted).tdiv 60) := by rw [Int.neg_tdiv]; omega
        have h1 : (-minted).tdiv 60 = (-minted) / 60 := Int.tdiv_eq_ediv_of_nonneg (by omega)
        omega
    · rcases Int.le_total 0 minted with hp | hp
      · rw [Int.tdiv_eq_ediv_of_nonneg hp]; omega
      · have e : minted.tdiv 60 = -((-minted).tdiv 60) := by rw [Int.neg_tdiv]; omega
        have h1 := Int.tdiv_nonneg (show 0 ≤ -minted by omega) (show (0 : Int) ≤ 60 by omega)
        omega)
  have P1 := Lib.hid fun X => picked ticks 4 (by omega) (by omega) X
  have P2 := Lib.hid fun X => picked minted 60 (by omega) (by omega) X
  have P3 := Lib.hid fun X => picked (minted.tdiv 60) 60 (by omega) (by omega) X
  have P4 := Lib.hid fun X => picked most 20 (by omega) (by omega) X
  have hd1 := (pn_eq ticks 4 (by omega)).2
  have hd4 := (pn_eq most 20 (by omega)).2
  have hcf : cfgOf ls ticks minted most = ⟨4, labsOf ls, 1 + pn ticks 4, [pick minted 60, pick (minted.tdiv 60) 60], pn most 20⟩ := rfl
  rw [← (pn_eq ticks 4 (by omega)).1] at P1
  rw [← (pn_eq most 20 (by omega)).1] at P4
  have hll := labsK_len ls 3
  have hcl3 : (labsOf ls).length = 3 := hll
  rw [hcf]
  generalize labsOf ls = labs at *
  generalize pn ticks 4 = d1 at *
  generalize pick minted 60 = d2 at *
  generalize pick (minted.tdiv 60) 60 = d3 at *
  generalize pn most 20 = d4 at *
  have Hbz := Lib.hid hbz
  have hw1 : IntKind.i64.wrap (1 + (d1 : Int)) = 1 + (d1 : Int) := IntWalk.i64_in _ (by omega)
  clear h hm hwf hbz hcf hll
  go_enter Tryz.func11, Tryz.ntmps11
  go_wp2_with fail
  refine C0.out.mono ?_
  rintro e w2 ⟨gl, cl, rfl, hownL, hb2⟩
  have HL2 := Has.of_owns hownL
  have hbox : w2.heap[w.heap.size]? = some (.cells #[.int .i64 0, .slice none 0 0, .int .i64 0, .slice none 0 0, .int .i64 0] 25 (0, 0)) := by
    rw [hb2.block _ (by simp)]; exact heap_alloc_new _ _
  have hlt := (Array.getElem?_eq_some_iff.1 hbox).1
  have hba : Below w2.heap.size w2 (w2.alloc (.cells #[.int .i64 d2, .int .i64 d3] 3)) := (Below.refl _ _).alloc (Nat.le_refl _) _
  have hbox2 : (w2.alloc (.cells #[.int .i64 d2, .int .i64 d3] 3)).heap[w.heap.size]? = some (.cells #[.int .i64 0, .slice none 0 0, .int .i64 0, .slice none 0 0, .int .i64 0] 25 (0, 0)) := by rw [hba.block _ hlt]; exact hbox
  have hb02 : Below w.heap.size w w2 := Hbz.out.trans (hb2.mono Hbz.out.size)
  obtain ⟨⟨y0, y1, y2, y3, y4⟩, yf⟩ := five_at hbox2
  have yf0 := yf 0
  have yf1 := yf 1
  have yf2 := yf 2
  have yf3 := yf 3
  have yf4 := yf 4
  have hfin : ∀ X : World, X = (((((w2.alloc (.cells #[.int .i64 d2, .int .i64 d3] 3)).setCell ⟨w.heap.size, 0, none⟩ (.int .i64 4)).setCell ⟨w.heap.size, 1, none⟩ (.slice (some ⟨gl, 0, none⟩) 3 cl)).setCell ⟨w.heap.size, 2, none⟩ (.int .i64 (1 + (d1 : Int)))).setCell ⟨w.heap.size, 3, none⟩ (.slice (some ⟨w2.heap.size, 0, none⟩) 2 2)).setCell ⟨w.heap.size, 4, none⟩ (.int .i64 d4) →
      (X.cell? ⟨w.heap.size, 0, none⟩ = some (.int .i64 4) ∧ X.cell? ⟨w.heap.size, 1, none⟩ = some (.slice (some ⟨gl, 0, none⟩) 3 cl) ∧ X.cell? ⟨w.heap.size, 2, none⟩ = some (.int .i64 (1 + (d1 : Int))) ∧ X.cell? ⟨w.heap.size, 3, none⟩ = some (.slice (some ⟨w2.heap.size, 0, none⟩) 2 2) ∧ X.cell? ⟨w.heap.size, 4, none⟩ = some (.int .i64 d4)) ∧
      (CfgAt X ⟨4, labs, 1 + d1, [d2, d3], d4⟩ (.slice (some ⟨gl, 0, none⟩) 3 cl) (.slice (some ⟨w2.heap.size, 0, none⟩) 2 2) ∧ Below w.heap.size w X) := fun X hX => by
    subst hX
    have hput := five_put hbox2 (.int .i64 4) (.slice (some ⟨gl, 0, none⟩) 3 cl) (.int .i64 (1 + (d1 : Int))) (.slice (some ⟨w2.heap.size, 0, none⟩) 2 2) (.int .i64 d4)
    obtain ⟨t, -⟩ := five_at hput
    have hwr : ∀ k, k ≠ w.heap.size → ((((((w2.alloc (.cells #[.int .i64 d2, .int .i64 d3] 3)).setCell ⟨w.heap.size, 0, none⟩ (.int .i64 4)).setCell ⟨w.heap.size, 1, none⟩ (.slice (some ⟨gl, 0, none⟩) 3 cl)).setCell ⟨w.heap.size, 2, none⟩ (.int .i64 (1 + (d1 : Int)))).setCell ⟨w.heap.size, 3, none⟩ (.slice (some ⟨w2.heap.size, 0, none⟩) 2 2)).setCell ⟨w.heap.size, 4, none⟩ (.int .i64 d4)).heap[k]? = (w2.alloc (.cells #[.int .i64 d2, .int .i64 d3] 3)).heap[k]? := fun k hk => by
      rw [Below.heap_setCell _ _ _ _ hk, Below.heap_setCell _ _ _ _ hk, Below.heap_setCell _ _ _ _ hk, Below.heap_setCell _ _ _ _ hk, Below.heap_setCell _ _ _ _ hk]
    obtain ⟨g', c', he, hge, _⟩ := owns_some hownL (by omega)
    simp only [Value.slice.injEq, Option.some.injEq, Addr.mk.injEq, and_true, true_and] at he
    obtain ⟨rfl, rfl⟩ := he
    have hglne : gl ≠ w.heap.size := by simp at hge; omega
    refine ⟨t, ⟨?_, ?_⟩, ?_⟩
    · refine ((by rw [hcl3]; exact HL2 : Has w2 1 (.slice (some ⟨gl, 0, none⟩) 3 cl) labs.length (ints (labInts labs))).below hba).at fun _ b off n' cap hv => ?_
      simp only [Value.slice.injEq, Option.some.injEq, Addr.mk.injEq] at hv
      obtain ⟨⟨rfl, -, -⟩, -⟩ := hv
      exact hwr _ hglne
    · refine (has_block (wp := w2) (cs := ints [d2, d3]) (n := 2) (sz := 1) (heap_alloc_new w2 (.cells #[.int .i64 d2, .int .i64 d3] 3)) rfl rfl (by decide)).at fun _ b off n' cap hv => ?_
      simp only [Value.slice.injEq, Option.some.injEq, Addr.mk.injEq] at hv
      obtain ⟨⟨rfl, -, -⟩, -⟩ := hv
      exact hwr _ (by omega)
    · exact (((((hb02.trans (hba.mono hb02.size)).setCell (Nat.le_refl _) _).setCell (Nat.le_refl _) _).setCell (Nat.le_refl _) _).setCell (Nat.le_refl _) _).setCell (Nat.le_refl _) _
  have Hfin := Lib.hid hfin
  clear hfin hownL HL2 hbox hbox2 hba hb02 hb2 yf C0 Hbz
  go_wp2_with (first | (go_at_call 18; with_reducible refine (P1.out _).mono ?_; rintro e w' ⟨rfl, rfl⟩) | (go_at_call 18; with_reducible refine (P2.out _).mono ?_; rintro e w' ⟨rfl, rfl⟩) | (go_at_call 18; with_reducible refine (P3.out _).mono ?_; rintro e w' ⟨rfl, rfl⟩))
  refine (P4.out _).mono ?_
  rintro e w' ⟨rfl, rfl⟩
  generalize (w2.alloc (.cells #[.int .i64 d2, .int .i64 d3] 3)) = W3 at *
  go_wp2_with fail
  obtain ⟨⟨t0, t1, t2, t3, t4⟩, hc, hb⟩ := Hfin.out _ rfl
  clear Hfin y0 y1 y2 y3 y4 yf0 yf1 yf2 yf3 yf4
  generalize (((((W3.setCell ⟨w.heap.size, 0, none⟩ (.int .i64 4)).setCell ⟨w.heap.size, 1, none⟩ (.slice (some ⟨gl, 0, none⟩) 3 cl)).setCell ⟨w.heap.size, 2, none⟩ (.int .i64 (1 + (d1 : Int)))).setCell ⟨w.heap.size, 3, none⟩ (.slice (some ⟨w2.heap.size, 0, none⟩) 2 2)).setCell ⟨w.heap.size, 4, none⟩ (.int .i64 d4)) = X at *
  refine bodyPost_ret (v := .agg #[.int .i64 4, .slice (some ⟨gl, 0, none⟩) 3 cl, .int .i64 (1 + (d1 : Int)), .slice (some ⟨w2.heap.size, 0, none⟩) 2 2, .int .i64 d4]) (by simp [results, Tryz.results11, go_sem, t0, t1, t2, t3, t4]) rfl ?_
  exact ⟨_, _, _, rfl, hc, hb⟩
end Go.Proofs.YtjdedflfdlhkdaaGreatDoor

namespace Go.Proofs.YtjdedflfdlhkdaaGreatDoor
open Go.ChangeShapes Go.WideShapes Go.ChangeAt Go.RowKit
set_option linter.unusedVariables false
set_option linter.unusedSimpArgs false

theorem OrdVar.pos {w : World} (h : OrdVar w) : 0 < w.heap.size := World.block_lt_of_cell? w _ h.1
theorem OrdVar.on {w w' : World} (h : OrdVar w) {B : Nat} (hb : Below B w w') (hB : 0 < B) : OrdVar w' := h.kept (hb.block 0 hB)
theorem inF_owns {w : World} {base e sz n : Nat} {v : Value} {xs : List Value} (h : w.ownsRow base e sz v n xs) : InF (fun b => b < w.heap.size) v := fun b off n' c hv => by
  subst hv
  exact (owns_block_of h rfl).2.1
theorem inF_has {w : World} {sz n : Nat} {v : Value} {xs : List Value} (h : Has w sz v n xs) (hx : 0 < xs.length) : InF (fun b => b < w.heap.size) v := fun b off n' c hv => by
  subst hv
  obtain ⟨_, a, cap, he, _, _, hc⟩ := h
  simp only [Value.slice.injEq] at he
  obtain ⟨rfl, -, -⟩ := he
  obtain ⟨b', o', he, hc⟩ := hc hx
  simp only [Option.some.injEq, Addr.mk.injEq] at he
  obtain ⟨rfl, -, -⟩ := he
  exact World.block_lt_of_cell? w _ (hc 0 xs[0] (by simp))
/-- Play, of any steps. -/
theorem cPlay {w : World} {c : Cfg} {vl vm : Value} (hc : c.Ok) (hcfg : CfgAt w c vl vm) (hl : InF (fun b => b < w.heap.size) vl) (hm : InF (fun b => b < w.heap.size) vm) (ho : OrdVar w)
    (v : Value) (l : List Stp) (hv : Has w 8 v l.length (stps l)) (hvi : InF (fun b => b < w.heap.size) v) (hlen : l.length ≤ 300) :
    Calls Tryz.prog 20 #[.agg (c.cells vl vm), v] w fun e w' => ∃ out sv fv rv, e = .returned (.tuple #[out, .int .i64 0]) ∧ TldsH w' out (wFold c l).2 sv fv rv ∧ Below w.heap.size w w' :=
  cPlay1 cBegunOk cStepW hc hcfg hl hm ho ho.pos v l hv hvi hlen
theorem cfgOf_inF {w : World} {ls : List Int} {t m k : Int} {vl vm : Value} (h : CfgAt w (cfgOf ls t m k) vl vm) : InF (fun b => b < w.heap.size) vl ∧ InF (fun b => b < w.heap.size) vm :=
  ⟨inF_has h.hl (by rw [ints_length]; simp [labInts, cfgOf, labsOf, labsK_len]), inF_has h.hm (by simp [cfgOf, ints])⟩
/-- What Play wants of memory. -/
structure Rdy (w : World) (c : Cfg) (vl vm : Value) : Prop where
  cf : CfgAt w c vl vm
  il : InF (fun b => b < w.heap.size) vl
  im : InF (fun b => b < w.heap.size) vm
  od : OrdVar w
theorem Rdy.on {w w' : World} {c : Cfg} {vl vm : Value} (h : Rdy w c vl vm) (hb : Below w.heap.size w w') : Rdy w' c vl vm :=
  ⟨h.cf.on hb, h.il.mono fun b hb' => Nat.lt_of_lt_of_le hb' hb.size, h.im.mono fun b hb' => Nat.lt_of_lt_of_le hb' hb.size, h.od.on hb h.od.pos⟩
theorem cPlayR {w : World} {c : Cfg} {vl vm : Value} (hc : c.Ok) (h : Rdy w c vl vm) (v : Value) (l : List Stp) (hv : Has w 8 v l.length (stps l)) (hvi : InF (fun b => b < w.heap.size) v) (hlen : l.length ≤ 300) :
    Calls Tryz.prog 20 #[.agg (c.cells vl vm), v] w fun e w' => ∃ out sv fv rv, e = .returned (.tuple #[out, .int .i64 0]) ∧ TldsH w' out (wFold c l).2 sv fv rv ∧ Below w.heap.size w w' :=
  cPlay hc h.cf h.il h.im h.od v l hv hvi hlen
theorem cConfigR {w : World} {v : Value} {ls : List Int} (ho : OrdVar w) (ticks minted most : Int) (h : Has w 1 v ls.length (ints ls)) (hm : (Lit.int .i64 minted).wf = true) :
    Calls Tryz.prog 11 #[v, .int .i64 ticks, .int .i64 minted, .int .i64 most] w fun e w' => ∃ g cl gm, e = .returned (.agg ((cfgOf ls ticks minted most).cells (.slice (some ⟨g, 0, none⟩) 3 cl) (.slice (some ⟨gm, 0, none⟩) 2 2))) ∧ Rdy w' (cfgOf ls ticks minted most) (.slice (some ⟨g, 0, none⟩) 3 cl) (.slice (some ⟨gm, 0, none⟩) 2 2) ∧ Below w.heap.size w w' :=
  (cConfigOf ticks minted most h hm).mono fun e w' ⟨g, cl, gm, he, hC, hb⟩ => ⟨g, cl, gm, he, ⟨hC, (cfgOf_inF hC).1, (cfgOf_inF hC).2, ho.on hb ho.pos⟩, hb⟩
theorem tldsC_get (l : List Tld) (sv fv rv : Nat → Value) (k j : Nat) (hk : k < l.length) (hj : j < 11) : (tldsC l sv fv rv)[k * 11 + j]? = (l[k].cells (sv k) (fv k) (rv k))[j]? := by
  have hgen : ∀ (n : Nat) (f : Nat → List Value), (∀ i, (f i).length = 11) → k < n → ((List.range n).flatMap f)[k * 11 + j]? = (f k)[j]? := by
    intro n f hf
    induction n with
    | zero => intro h; omega
    | succ n ih =>
      intro h
      have hlen : ((List.range n).flatMap f).length = n * 11 := by
        clear ih h
        induction n with
        | zero => rfl
        | succ n ih => rw [List.range_succ, List.flatMap_append, List.length_append, ih]; simp [hf]; omega
      rw [List.range_succ, List.flatMap_append]
      rcases Nat.lt_or_ge k n with h' | h'
      · rw [List.getElem?_append_left (by rw [hlen]; omega)]; exact ih h'
      · obtain rfl : k = n := by omega
        rw [List.getElem?_append_right (by rw [hlen]; omega), hlen]; simp
  have e : l.getD k (noT 0) = l[k] := by simp [List.getD_eq_getElem?_getD, hk]
  rw [← e]
  exact hgen l.length _ (fun i => rfl) hk
/-- What is told of step k, to be read. -/
theorem TldsH.at {w : World} {out : Value} {l : List Tld} {sv fv rv : Nat → Value} (h : TldsH w out l sv fv rv) (k : Nat) (hk : k < l.length) : ∃ b o cap, out = .slice (some ⟨b, o, none⟩) l.length cap ∧ l.length ≤ cap ∧ cap ≤ maxLen ∧
    ∀ j u, j < 11 → (l[k].cells (sv k) (fv k) (rv k))[j]? = some u → w.cell? ⟨b, o + k * 11 + j, none⟩ = some u := by
  obtain ⟨⟨hl0, _⟩, a, cap, rfl, h1, h2, hcc⟩ := h.row
  obtain ⟨b, o, rfl, hcell⟩ := hcc (by rw [hl0]; omega)
  exact ⟨b, o, cap, rfl, h1, h2, fun j u hj hu => by rw [Nat.add_assoc]; exact hcell _ u (by rw [tldsC_get l sv fv rv k j hk hj]; exact hu)⟩
theorem env_get {W : World} {v : Value} {l : List Env} (h : Has W 4 v l.length (envC l)) (k : Nat) (hk : k < l.length) : ∃ b o cap, v = .slice (some ⟨b, o, none⟩) l.length cap ∧ l.length ≤ cap ∧ cap ≤ maxLen ∧
    (W.cell? ⟨b, o + k * 4, none⟩ = some (.int .i64 l[k].id) ∧ W.cell? ⟨b, o + k * 4 + 1, none⟩ = some (.int .i64 l[k].f) ∧ W.cell? ⟨b, o + k * 4 + 2, none⟩ = some (.int .i64 l[k].t) ∧ W.cell? ⟨b, o + k * 4 + 3, none⟩ = some (.int .i64 l[k].size)) := by
  obtain ⟨⟨hl0, _⟩, a, cap, rfl, h1, h2, hcc⟩ := h
  obtain ⟨b, o, rfl, hcell⟩ := hcc (by rw [hl0]; omega)
  have hg : ∀ (l : List Env) k (hk : k < l.length) j, j < 4 → (envC l)[k * 4 + j]? = l[k].cells[j]? := by
    intro l
    induction l with
    | nil => intro k hk; simp at hk
    | cons a t ih =>
      intro k hk j hj
      have e : a.cells.length = 4 := rfl
      unfold envC
      rw [List.flatMap_cons]
      cases k with
      | zero => rw [Nat.zero_mul, Nat.zero_add, List.getElem?_append_left (by omega)]; rfl
      | succ k =>
        rw [List.getElem?_append_right (by omega), e, show (k + 1) * 4 + j - 4 = k * 4 + j by omega]
        exact ih k (by simpa using hk) j hj
  have zz : ∀ j u, j < 4 → l[k].cells[j]? = some u → W.cell? ⟨b, o + k * 4 + j, none⟩ = some u := fun j u hj hu => by
    rw [Nat.add_assoc]; exact hcell _ u (by rw [hg l k hk j hj]; exact hu)
  exact ⟨b, o, cap, rfl, h1, h2, zz 0 _ (by omega) rfl, zz 1 _ (by omega) rfl, zz 2 _ (by omega) rfl, zz 3 _ (by omega) rfl⟩
def tk9 : Stp := ⟨9, 0, 0, 0, 0, 0, 0, 0⟩
end Go.Proofs.YtjdedflfdlhkdaaGreatDoor

namespace Go.Proofs.YtjdedflfdlhkdaaGreatDoor
open Go.ChangeShapes Go.WideShapes Go.ChangeAt Go.RowKit
set_option linter.unusedVariables false

abbrev doorL : List (String × DataW Unit) := [("splittally/world.orders", Rows.laid_splittally_world_orders)]
theorem door_met (os : Os) (args : Array Value) : laidMetH Tryz.prog doorL ((World.doorLaid Tryz.prog 400 os).forCall (fun _ _ => 0) ⟨#[], args, []⟩).memory :=
  laidMetH_of_parts3 (fuel := 8) (laidMet_of_run' 8 (by kernel_rfl) (by kernel_rfl)) (by kernel_rfl) (by kernel_rfl)
theorem ord_of_laid {W : World} (h : laidMetH Tryz.prog doorL W) : OrdVar W := by
  rw [MakeChecks.laidMetH_plain _ _ _ (by kernel_rfl)] at h
  have gN : Tryz.prog.globalNamed "splittally/world.orders" = some 0 := by kernel_rfl
  have hT : Lib.TabIs Tryz.prog W "splittally/world.orders" .i64 [2, 3, 4, 5, 6] := Lib.tabIs_of_head gN (show (Tryz.prog.globals[0]?).map (·.type) = some 151 by kernel_rfl) Tryz.underlying151 Tryz.underlying3 (by kernel_rfl) (by kernel_rfl) h
  exact ⟨hT.cell gN 0 (by decide), hT.cell gN 1 (by decide), hT.cell gN 2 (by decide), hT.cell gN 3 (by decide), hT.cell gN 4 (by decide)⟩
end Go.Proofs.YtjdedflfdlhkdaaGreatDoor

namespace Go.Proofs.YtjdedflfdlhkdaaGreatDoor
open Go.ChangeShapes Go.WideShapes Go.ChangeAt Go.RowKit Go.Joins Go.Deep
set_option linter.unusedVariables false
section
variable {H : Type} {enc : TypeId × Value → H} {P : Program} {w : World} {base : Nat} {spare : Nat → Bool} {held : Bool}
/-- A struct of one-cell fields, by value: its cells, each with its own reading. -/
theorem open_struct {r : Reach} {b0 : Nat} {t : TypeId} {fs : Array Field} {v : Value} {d : DataW H} {p : List MemPlace} (hs : P.underlying t = some (.struct fs)) (hone : oneCellFields P fs = true) (hC : P.cellsOf t = fs.size)
    (hv : Value.okWide P w r b0 t v) (h : DataW.Trod enc P w base spare held t v d p) :
    ∃ (cs : List Value) (n : Nat), v = .agg cs.toArray ∧ cs.length = fs.size ∧ ∀ (j : Nat) (f : Field) (c : Value), fs[j]? = some f → cs[j]? = some c → ∃ y, DataW.trod enc P w base spare held n f.type [c] = some y := by
  obtain ⟨cs, rfl, hsz⟩ := okWide_struct hs hv
  obtain ⟨l⟩ := cs
  have hl : l.length = fs.size := hsz.trans hC
  obtain ⟨fuel, hf⟩ := h
  obtain ⟨xs, n, _, _, _, hlen, hg⟩ := DataW.trod_struct hs hf
  refine ⟨l, n, rfl, hl, fun j f c hj hc => ?_⟩
  obtain ⟨ho, hk⟩ := hone_of hone j f hj
  have h1 := hg j f hj
  have hjl : j < l.length := (List.getElem?_eq_some_iff.1 hc).1
  have e1 : (l.drop j).take 1 = [c] := by
    rw [List.drop_eq_getElem_cons hjl, List.take_succ_cons, List.take_zero, (List.getElem?_eq_some_iff.1 hc).2]
  rw [ho, hk] at h1
  have e2 : (Value.agg l.toArray).cells.toList = l := rfl
  rw [e2, e1] at h1
  have hx : j < xs.length := by omega
  exact ⟨_, h1.trans (List.getElem?_eq_getElem hx)⟩
theorem int_of {n : Nat} {e : TypeId} {c : Value} {y : DataW H × List MemPlace} (he : P.underlying e = some (.int .i64)) (h : DataW.trod enc P w base spare held n e [c] = some y) : ∃ z : Int, c = .int .i64 z := by
  obtain ⟨a, e0, _⟩ := DataW.trod_int he h
  exact ⟨a, by simpa using e0⟩
theorem bool_of {n : Nat} {e : TypeId} {c : Value} {y : DataW H × List MemPlace} (he : P.underlying e = some .bool) (h : DataW.trod enc P w base spare held n e [c] = some y) : ∃ b : Bool, c = .bool b := by
  obtain ⟨a, e0, _⟩ := DataW.trod_bool he h
  exact ⟨a, by simpa using e0⟩
end
end Go.Proofs.YtjdedflfdlhkdaaGreatDoor

namespace Go.Proofs.YtjdedflfdlhkdaaGreatDoor
open Go.ChangeShapes Go.WideShapes Go.ChangeAt Go.RowKit Go.Joins Go.Deep
set_option linter.unusedVariables false
theorem list_of {α : Type} (Q : Nat → α → Prop) : ∀ n, (∀ i, i < n → ∃ a, Q i a) → ∃ l : List α, l.length = n ∧ ∀ i a, l[i]? = some a → Q i a
  | 0, _ => ⟨[], rfl, fun i a h => by simp at h⟩
  | n + 1, h => by
    obtain ⟨l, hl, hq⟩ := list_of Q n fun i hi => h i (by omega)
    obtain ⟨a, ha⟩ := h n (by omega)
    refine ⟨l ++ [a], by simp [hl], fun i b hb => ?_⟩
    by_cases hi : i < l.length
    · rw [List.getElem?_append_left hi] at hb; exact hq i b hb
    · have : i = l.length := by have := (List.getElem?_eq_some_iff.1 hb).1; simp at this; omega
      subst this
      simp at hb
      subst hb; rw [hl]; exact ha
section
variable {H : Type} {enc : TypeId × Value → H} {P : Program} {W : World} {sp : Nat → Bool}
/-- The fields of a struct of one-cell fields. -/
theorem struct_fields {t : TypeId} {fs : Array Field} {n : Nat} {cs : List Value} {x : DataW H × List MemPlace} (hs : P.underlying t = some (.struct fs)) (hone : oneCellFields P fs = true) (hC : P.cellsOf t = fs.size)
    (h : DataW.trod enc P W 0 sp true n t cs = some x) : cs.length = fs.size ∧ ∃ n', ∀ (j : Nat) (f : Field) (c : Value), fs[j]? = some f → cs[j]? = some c → ∃ y, DataW.trod enc P W 0 sp true n' f.type [c] = some y := by
  obtain ⟨xs, n', _, _, hl, hlen, hg⟩ := DataW.trod_struct hs h
  refine ⟨hl.trans hC, n', fun j f c hj hc => ?_⟩
  obtain ⟨ho, hk⟩ := hone_of hone j f hj
  have h1 := hg j f hj
  have hjl : j < cs.length := (List.getElem?_eq_some_iff.1 hc).1
  have e1 : (cs.drop j).take 1 = [c] := by
    rw [List.drop_eq_getElem_cons hjl, List.take_succ_cons, List.take_zero, (List.getElem?_eq_some_iff.1 hc).2]
  rw [ho, hk, e1] at h1
  have hx : j < xs.length := by have := (Array.getElem?_eq_some_iff.1 hj).1; omega
  exact ⟨_, h1.trans (List.getElem?_eq_getElem hx)⟩
/-- A row whose elements read, out of one cell (a slice in a cell). -/
theorem open_cells {α : Type} (f : α → List Value) (R : α → Prop) (m : Nat) (hf : ∀ a, (f a).length = m) (hm0 : 0 < m) {t e : TypeId} (ht : P.underlying t = some (.slice e)) (hC : P.cellsOf e = m)
    (hread : ∀ n cs y, cs.length = m → DataW.trod enc P W 0 sp true n e cs = some y → ∃ a, cs = f a ∧ R a) {n : Nat} {v : Value} {y : DataW H × List MemPlace} (h : DataW.trod enc P W 0 sp true n t [v] = some y) :
    ∃ l : List α, Has W m v l.length (l.flatMap f) ∧ ∀ a ∈ l, R a := by
  rcases open_slice ht h with ⟨hcs, hx⟩ | ⟨a, len, cap, k, n', D, Pl, hcs, _, hl, hm, hk, hx, hi⟩
  · simp only [List.cons.injEq, and_true] at hcs
    subst hcs
    exact ⟨[], ⟨⟨by simp, fun n cap h => by simp at h; exact ⟨h.1.symm, h.2.symm⟩⟩, none, 0, rfl, Nat.le_refl _, Nat.zero_le _, fun h => by simp at h⟩, by simp⟩
  · simp only [List.cons.injEq, and_true] at hcs
    subst hcs
    have hlk : len ≤ k := by rw [hk]; split <;> omega
    obtain ⟨l, hll, hq⟩ := list_of (fun i b => (∀ j u, (f b)[j]? = some u → W.cell? (a.add (i * m + j)) = some u) ∧ R b) len fun i hil => by
      obtain ⟨cs', hc, ht'⟩ := hi i (by omega)
      rw [hC] at hc
      obtain ⟨_, hcl, hat⟩ := World.cells?_some hc
      obtain ⟨b, rfl, hR⟩ := hread _ _ _ hcl ht'
      refine ⟨b, fun j u hu => ?_, hR⟩
      have hj : j < m := by have := (List.getElem?_eq_some_iff.1 hu).1; omega
      rw [← Go.Deep.add_add, hat j hj]
      exact hu
    subst hll
    refine ⟨l, ⟨⟨flat_length f m hf l, fun n cap h => by simp at h⟩, some a, cap, rfl, hl, hm, fun hp => ?_⟩, fun b hb => ?_⟩
    · have hcell : ∀ j u, (l.flatMap f)[j]? = some u → W.cell? (a.add j) = some u := fun j u hu => by
        have hjl : j < l.length * m := by have := (List.getElem?_eq_some_iff.1 hu).1; rwa [flat_length f m hf l] at this
        have hd : j / m < l.length := (Nat.div_lt_iff_lt_mul hm0).2 hjl
        have hr := Nat.mod_lt j hm0
        have e := Nat.div_add_mod' j m
        have h1 := flat_get f m hf l (j / m) hd (j % m) hr
        rw [e, hu] at h1
        have := (hq (j / m) _ (List.getElem?_eq_getElem hd)).1 (j % m) u h1.symm
        rwa [e] at this
      have hsp : a.spot = none := by
        have h0 := hcell 0 ((l.flatMap f)[0]) (List.getElem?_eq_getElem hp)
        rw [show a.add 0 = a by simp [Addr.add]] at h0
        cases hs : a.spot with
        | none => rfl
        | some s => simp [World.cell?, hs] at h0; split at h0 <;> simp at h0
      refine ⟨a.block, a.off, by cases a; simp_all, fun j u hu => ?_⟩
      have := hcell j u hu
      rwa [addr_add _ _ hsp] at this
    · obtain ⟨i, hi', rfl⟩ := List.mem_iff_getElem.1 hb
      exact (hq i _ (List.getElem?_eq_getElem hi')).2
/-- An argument that is such a row. -/
theorem open_row {α : Type} (f : α → List Value) (R : α → Prop) (m : Nat) (hf : ∀ a, (f a).length = m) (hm0 : 0 < m) {t e : TypeId} {base : Nat} {v : Value} {d : DataW H} {ps : List MemPlace} (ht : P.underlying t = some (.slice e)) (hC : P.cellsOf e = m)
    (hread : ∀ n cs y, cs.length = m → DataW.trod enc P W 0 sp true n e cs = some y → ∃ a, cs = f a ∧ R a)
    (hval : Value.okWide P W .any base t v) (h : DataW.Trod enc P W 0 sp true t v d ps) : ∃ l : List α, Has W m v l.length (l.flatMap f) ∧ ∀ a ∈ l, R a := by
  obtain ⟨a0, len, cap, rfl⟩ := okWide_slice ht hval
  obtain ⟨fuel, hf'⟩ := h
  exact open_cells f R m hf hm0 ht hC hread (n := fuel) (v := .slice a0 len cap) (by simpa [Value.cells] using hf')
end
end Go.Proofs.YtjdedflfdlhkdaaGreatDoor

namespace Go.Proofs.YtjdedflfdlhkdaaGreatDoor
open Go.ChangeShapes Go.WideShapes Go.ChangeAt Go.RowKit Go.Joins Go.Deep
set_option linter.unusedVariables false
set_option linter.unusedSimpArgs false
theorem Stp.cells_len (p : Stp) : p.cells.length = 8 := rfl
set_option maxRecDepth 100000 in
theorem open_doings {H : Type} {enc : TypeId × Value → H} {W : World} {sp : Nat → Bool} {base : Nat} {v : Value} {d : DataW H} {ps : List MemPlace}
    (hval : Value.okWide Tryz.prog W .any base 23 v) (h : DataW.Trod enc Tryz.prog W 0 sp true 23 v d ps) : ∃ l : List Stp, Has W 8 v l.length (stps l) :=
  (open_row Stp.cells (fun _ => True) 8 Stp.cells_len (by omega) Tryz.underlying23 (by kernel_rfl) (fun n cs y hl hr => by
    obtain ⟨_, n', hf⟩ := struct_fields Tryz.underlying73 (by kernel_rfl) (by kernel_rfl) hr
    match cs, hl with
    | [c0, c1, c2, c3, c4, c5, c6, c7], _ =>
      obtain ⟨y0, h0⟩ := hf 0 _ c0 rfl rfl
      obtain ⟨y1, h1⟩ := hf 1 _ c1 rfl rfl
      obtain ⟨y2, h2⟩ := hf 2 _ c2 rfl rfl
      obtain ⟨y3, h3⟩ := hf 3 _ c3 rfl rfl
      obtain ⟨y4, h4⟩ := hf 4 _ c4 rfl rfl
      obtain ⟨y5, h5⟩ := hf 5 _ c5 rfl rfl
      obtain ⟨y6, h6⟩ := hf 6 _ c6 rfl rfl
      obtain ⟨y7, h7⟩ := hf 7 _ c7 rfl rfl
      obtain ⟨a0, rfl⟩ := int_of Tryz.underlying3 h0
      obtain ⟨a1, rfl⟩ := int_of Tryz.underlying3 h1
      obtain ⟨a2, rfl⟩ := int_of Tryz.underlying3 h2
      obtain ⟨a3, rfl⟩ := int_of Tryz.underlying3 h3
      obtain ⟨a4, rfl⟩ := int_of Tryz.underlying3 h4
      obtain ⟨a5, rfl⟩ := int_of Tryz.underlying3 h5
      obtain ⟨a6, rfl⟩ := int_of Tryz.underlying3 h6
      obtain ⟨a7, rfl⟩ := int_of Tryz.underlying3 h7
      exact ⟨⟨a0, a1, a2, a3, a4, a5, a6, a7⟩, rfl, trivial⟩) hval h).imp fun _ h => h.1
end Go.Proofs.YtjdedflfdlhkdaaGreatDoor
