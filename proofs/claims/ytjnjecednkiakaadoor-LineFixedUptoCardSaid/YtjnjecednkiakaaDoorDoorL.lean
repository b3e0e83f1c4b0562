/- The door of the lines: what the listed variables are when the call begins. -/
import Derived.Test.YtjnjecednkiakaaDoorDeskR
import Derived.ProofKit
import Derived.OpenShut
import Derived.LaidMore
import Derived.Lay
import Derived.Lib.LaidTab
import Derived.Lib.LaidU8
import Derived.Stop.Joined
import Derived.Stop.LaidErr
import Derived.Shelf.Vars
import Derived.Test.YtjnjecednkiakaaDoorRows
namespace Go.Proofs.YtjnjecednkiakaaDoor
open Go.ChangeShapes Go.WideShapes Go.ChangeAt Go.RowKit
set_option linter.unusedVariables false

abbrev doorL : List (String × DataW Unit) := [("math/bits.deBruijn32tab", Rows.laid_math_bits_deBruijn32tab), ("math/bits.deBruijn64tab", Rows.laid_math_bits_deBruijn64tab), ("internal/strconv.uint64pow10", Rows.laid_internal_strconv_uint64pow10), ("unicode/utf8.acceptRanges", Rows.laid_unicode_utf8_acceptRanges), ("strconv.ErrRange", Rows.laid_strconv_ErrRange), ("strconv.ErrSyntax", Rows.laid_strconv_ErrSyntax), ("splittally/desk.words", Rows.laid_splittally_desk_words), ("unicode/utf8.first", Rows.laid_unicode_utf8_first)]
set_option maxRecDepth 100000 in
theorem doorL_met (os : Os) (args : Array Value) : laidMetH Tryd.prog doorL ((World.laidAll Tryd.prog os doorL).forCall (fun _ _ => 0) ⟨#[], args, []⟩).memory := by
  rw [MakeChecks.laidMetH_plain _ _ _ (by kernel_rfl)]
  exact laidMet_laidAll _ (by kernel_rfl) (by kernel_rfl)
/-- The wrap of a row with a condition on the world, the world's shape kept. -/
theorem returns_and_shaped {H : Type} {enc : TypeId × Value → H} {a : Assume} {C : Checked} {os : Os} {f : FuncId} {fn : Func} {s : ChangeSpec} {conds : List PathCond} {apart fresh handsOn again : Bool} {X : World → Array Value → Prop}
    (hX : ∀ (w w' : World) (args : Array Value), w.heap = w'.heap → X w args → X w' args)
    (own : ownKnob C.prog.godebug = none) (started : os.Started) (noInit : C.prog.inits.idxOf? f = none) (hfn : C.prog.funcs[f]? = some fn)
    (witness : ∃ (w : World) (tape : Tape) (i : Input), w.os = os ∧ (w.forCall tape i).Shaped C.prog ∧ i.vars = [] ∧ Input.okWide C.prog (w.forCall tape i) .any w.heap.size f i ∧
      ((s.pre enc C.prog fn conds apart (w.forCall tape i).memory i.args ∧ X (w.forCall tape i).memory i.args) ∧ sizedMet enc C.prog fn (OpenSpec.ofChange s) apart (w.forCall tape i).memory i.args) ∧ a.holds C.prog (lone (Frame.enter C.prog f i.args .normal) [] (w.forCall tape i)))
    (contract : ∀ (W : World) (base : Nat) (args : Array Value) (ds gs : List (DataW H)) (before : List MemPlace),
      (∀ (j : Nat) t v, fn.params[j]? = some t → args[j]? = some v → Value.okWide C.prog W .any base t v) →
      DataW.Whole enc C.prog fn.params.toList s.vars apart W args.toList ds gs before →
      conds.all (PathCond.test C.prog ⟨fn.params.toList, ds, s.plain.varTypes C.prog, gs⟩) = true →
      (DataW.weightsEach C.prog (fn.params.toList ++ s.plain.varTypes C.prog) (ds ++ gs)).all (· ≤ reachBytes) = true → X W args → W.ShapedOpen C.prog →
      Calls C.prog f args W fun e W' => ∃ v, e = .returned v ∧ s.post enc C.prog fn apart fresh handsOn again W args v W') :
    ReturnsInHanded a C os f .any (fun w args => (s.pre enc C.prog fn conds apart w args ∧ X w args) ∧ sizedMet enc C.prog fn (OpenSpec.ofChange s) apart w args) (s.post enc C.prog fn apart fresh handsOn again) := by
  refine returnsInHanded_of_calls own started noInit witness fun w tape i _ hsh _ hok hpre _ => ?_
  obtain ⟨_, _, _, fn', hfn', _, _, _, _, hval⟩ := hok
  obtain rfl : fn' = fn := Option.some.inj (hfn'.symm.trans hfn)
  obtain ⟨⟨⟨ds, gs, before, hw, hc⟩, hx⟩, hz⟩ := hpre
  refine (contract (w.forCall tape i) w.heap.size i.args ds gs before hval (DataW.Whole.of_heap (w' := w.forCall tape i) (by rfl) hw) hc (hz.weights hw) (hX _ _ _ (by rfl) hx) hsh).mono ?_
  rintro e W' ⟨v, rfl, hp⟩
  exact ChangeSpec.post_blind hp
def wordsD : List (DataW Unit) := match (Rows.laid_splittally_desk_words : DataW Unit) with
  | .agg l => l
  | _ => []
theorem wordsD_at (i : Nat) (hi : i < 11) : wordsD[i]? = some (.agg [.lit (.string (wordOf i)), .lit (.string (ltrsOf i))]) := by
  have : i = 0 ∨ i = 1 ∨ i = 2 ∨ i = 3 ∨ i = 4 ∨ i = 5 ∨ i = 6 ∨ i = 7 ∨ i = 8 ∨ i = 9 ∨ i = 10 := by omega
  rcases this with rfl | rfl | rfl | rfl | rfl | rfl | rfl | rfl | rfl | rfl | rfl <;> rfl
set_option maxRecDepth 100000 in
theorem words_of_laid {W : World} (h : laidMet Tryd.prog doorL W) : WordsVar W := by
  intro i hi
  obtain ⟨g, t, cs, fuel, p, hg, ht, hv, hd⟩ := Lib.laidMet.reads h (n := "splittally/desk.words") (d := Rows.laid_splittally_desk_words) (by simp)
  obtain rfl := Option.some.inj ((show Tryd.prog.globalNamed "splittally/desk.words" = some 0 by kernel_rfl).symm.trans hg)
  obtain rfl := Option.some.inj ((show (Tryd.prog.globals[0]?).map (·.type) = some 44 by kernel_rfl).symm.trans ht)
  have c43 : Tryd.prog.cellsOf 43 = 2 := by kernel_rfl
  have c9 : Tryd.prog.cellsOf 9 = 1 := by kernel_rfl
  obtain ⟨xs, m, _, ex, _, hl, hel⟩ := DataW.trod_array Tryd.underlying44 hd
  have hE := hel i hi
  rw [c43, List.getElem?_eq_getElem (by omega)] at hE
  obtain ⟨ys, m2, _, ey, _, hly, hely⟩ := DataW.trod_array Tryd.underlying43 hE
  have h0 := hely 0 (by omega)
  have h1 := hely 1 (by omega)
  rw [c9, List.getElem?_eq_getElem (by omega)] at h0 h1
  obtain ⟨s0, k0, y0, _⟩ := DataW.trod_string Tryd.underlying9 h0
  obtain ⟨s1, k1, y1, _⟩ := DataW.trod_string Tryd.underlying9 h1
  have hw : wordsD = xs.map (·.1) := congrArg (fun d : DataW Unit => match d with | .agg l => l | _ => []) (Prod.mk.inj ex).1
  have hx := wordsD_at i hi
  rw [hw, List.getElem?_map, List.getElem?_eq_getElem (by omega : i < xs.length), ey] at hx
  simp only [Option.map_some, Option.some.injEq, DataW.agg.injEq] at hx
  have hy0 := congrArg (·[0]?) hx
  have hy1 := congrArg (·[1]?) hx
  simp only [List.getElem?_map, List.getElem?_eq_getElem (show 0 < ys.length by omega), List.getElem?_eq_getElem (show 1 < ys.length by omega), y0, y1, Option.map_some, List.getElem?_cons_zero, List.getElem?_cons_succ, Option.some.injEq, DataW.lit.injEq, Lit.string.injEq] at hy0 hy1
  have e0 : s0 = ⟨(wordOf i).toArray⟩ := WideShapes.bytes_inj (by rw [hy0])
  have e1 : s1 = ⟨(ltrsOf i).toArray⟩ := WideShapes.bytes_inj (by rw [hy1])
  have q0 : cs.toList[i * 2]? = some (.string s0) := by
    have := congrArg (·[0]?) k0
    simpa [List.getElem?_take, List.getElem?_drop] using this
  have q1 : cs.toList[i * 2 + 1]? = some (.string s1) := by
    have := congrArg (·[0]?) k1
    simpa [List.getElem?_take, List.getElem?_drop] using this
  rw [World.var?_cell hg hv (i * 2), World.var?_cell hg hv (i * 2 + 1), ← e0, ← e1]
  exact ⟨by simpa using q0, by simpa using q1⟩
theorem errRow : ∀ u, Tryd.prog.typeName? 3 u = some "*errors.errorString" → u = 106 := fun u hu =>
  typeName_ptr_named (nm := "errors.errorString") (by kernel_rfl) (by kernel_rfl) (by decide) u (hu.trans (by rfl))
set_option maxRecDepth 100000 in
theorem lib_of_laid {W : World} (h0 : laidMetH Tryd.prog doorL W) (hsh : W.ShapedOpen Tryd.prog) : LibVars W := by
  rw [MakeChecks.laidMetH_plain _ _ _ (by kernel_rfl)] at h0
  refine ⟨words_of_laid h0, ?_, ?_, ?_, ?_⟩
  · exact Lib.tabIs_of_head (g := 5) (t := 103) (e := 63) (n := 20) (by kernel_rfl) (by kernel_rfl) Tryd.underlying103 Tryd.underlying63 (by kernel_rfl) (by kernel_rfl) h0.tail.tail
  · obtain ⟨a1, s1, hv1, -, -, -⟩ := laid_sentinel (g := 3) (ti := 57) (ts := 9) h0.tail.tail.tail.tail.tail (by kernel_rfl) (by kernel_rfl) Tryd.underlying57 errRow Tryd.underlying106 Tryd.underlying108 rfl rfl Tryd.underlying9 (by kernel_rfl) (by kernel_rfl)
    exact ⟨_, World.var?_cell (by kernel_rfl) hv1 0, .inr ⟨_, _, rfl⟩⟩
  · obtain ⟨a1, s1, hv1, -, -, -⟩ := laid_sentinel (g := 4) (ti := 57) (ts := 9) h0.tail.tail.tail.tail (by kernel_rfl) (by kernel_rfl) Tryd.underlying57 errRow Tryd.underlying106 Tryd.underlying108 rfl rfl Tryd.underlying9 (by kernel_rfl) (by kernel_rfl)
    exact ⟨_, World.var?_cell (by kernel_rfl) hv1 0, .inr ⟨_, _, rfl⟩⟩
  · obtain ⟨m, hm⟩ := cell_of_shapedOpen_int (P := Tryd.prog) (g := 6) (t := 3) (zero := #[.int .i64 0]) hsh (of_decide_eq_true (by kernel_rfl)) (by kernel_rfl) rfl (by kernel_rfl) (by kernel_rfl) Tryd.underlying3
    exact ⟨m, hm⟩
end Go.Proofs.YtjnjecednkiakaaDoor
