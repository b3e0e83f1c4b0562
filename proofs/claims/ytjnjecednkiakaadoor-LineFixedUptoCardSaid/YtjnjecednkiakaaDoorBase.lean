/- General lemmas of this family: numbers, small facts on worlds. No statement of its own. -/
import Derived.Test.YtjnjecednkiakaaDoorRows
import Derived.WalkKit
import Derived.ProofKit
import Derived.OpenShut
import Derived.WalkLawsBesides
import Derived.Lib.Hide
import Derived.StillTailTactics
import Derived.BigQuiet
import Derived.Deep.QuietTactic
import Derived.Deep.DeepCutAuto
import Derived.Deep.RegionWith
import Derived.Deep.RegionHeld3
namespace Go.Proofs.YtjnjecednkiakaaDoor
open Go.ChangeShapes Go.WideShapes Go.ChangeAt Go.RowKit
set_option linter.unusedVariables false

theorem ret_int {k : IntKind} {a b : Int} (h : a = b) : Ending.returned (.int k a) = .returned (.int k b) := by rw [h]
theorem ret_bool {a b : Bool} (h : a = b) : Ending.returned (.bool a) = .returned (.bool b) := by rw [h]
theorem wf64_iff {n : Int} : (Lit.int .i64 n).wf = true ↔ -9223372036854775808 ≤ n ∧ n ≤ 9223372036854775807 := by
  simp [Lit.wf, IntKind.min, IntKind.max, IntKind.signed, IntKind.bits]

/-- 'Picked': the remainder from 0 up. -/
def pick (a n : Int) : Int := if a.tmod n < 0 then a.tmod n + n else a.tmod n
theorem pick_bd (a n : Int) (hn : 0 < n) : 0 ≤ pick a n ∧ pick a n < n := by
  have h1 := Int.tmod_lt_of_pos a hn
  have h2 : -n < a.tmod n := by
    have := Int.neg_tmod a n
    have := Int.tmod_lt_of_pos (-a) hn
    omega
  unfold pick; split <;> omega
theorem picked (a n : Int) (hn : 0 < n) (hm : n ≤ 1152921504606846976) (w : World) :
    Calls Tryd.prog 6 #[.int .i64 a, .int .i64 n] w fun e w' => e = .returned (.int .i64 (pick a n)) ∧ w = w' := by
  have h1 := Int.tmod_lt_of_pos a hn
  have h2 : -n < a.tmod n := by
    have := Int.neg_tmod a n
    have := Int.tmod_lt_of_pos (-a) hn
    omega
  have H : Hid (pick a n = if a.tmod n < 0 then a.tmod n + n else a.tmod n) := rfl
  go_enter Tryd.func6, Tryd.ntmps6
  go_wp2
  all_goals go_ret
  · exact ⟨ret_int (by rw [H.out, if_pos (by assumption)]), rfl⟩
  · exact ⟨ret_int (by rw [H.out, if_neg (by omega)]), rfl⟩

section frame
variable {H : Type} {enc : TypeId × Value → H} {P : Program}
/-- Arguments read as they did where their places hold what they held. -/
theorem trodAll_stays (hl : laidOutB P = true) {W W' : World} {sp' : Nat → Bool} : ∀ {ts : List TypeId} {vs : List Value} {ds : List (DataW H)} {ps : List MemPlace},
    ts.all (fun t => P.readableRec t && decide (t < P.types.size)) = true → DataW.TrodAll enc P W 0 (fun _ => true) true ts vs ds ps → (∀ x ∈ ps, W.sameAt W' x) → (∀ x ∈ ps, sp' x.block = true) →
    DataW.TrodAll enc P W' 0 sp' true ts vs ds ps
  | [], [], [], _, _, h, _, _ => h
  | t :: ts, _ :: _, _ :: _, _, ht, ⟨p, q, h1, h2, e⟩, hs, hb => by
    simp only [List.all_cons, Bool.and_eq_true, decide_eq_true_eq] at ht
    refine ⟨p, q, WideElems.Trod_stays hl ht.1.1 ht.1.2 h1 (fun x hx => hs x (by rw [e]; exact List.mem_append_left _ hx)) (fun x hx => hb x (by rw [e]; exact List.mem_append_left _ hx)), trodAll_stays hl ht.2 h2 (fun x hx => hs x (by rw [e]; exact List.mem_append_right _ hx)) (fun x hx => hb x (by rw [e]; exact List.mem_append_right _ hx)), e⟩
/-- What a law's row asks behind the call: it returned true, and below its first block nothing has changed. -/
theorem law_post {f : Func} {s : ChangeSpec} {W W' : World} {args : Array Value} {ds : List (DataW H)} {before : List MemPlace} {b : TypeId}
    (hl : laidOutB P = true) (hr : f.params.toList.all (fun t => P.readableRec t && decide (t < P.types.size)) = true) (hbool : P.underlying b = some .bool) (hres : f.resultTypes = #[b])
    (hW : DataW.Whole enc P f.params.toList s.vars false W args.toList ds [] (before ++ [])) (hA : DataW.TrodAll enc P W 0 (fun _ => true) true f.params.toList args.toList ds before)
    (hlt : ∀ x ∈ before, x.block < W.heap.size) (hb : Below W.heap.size W W') (hvars : s.vars = [])
    (hfn : ∀ (_ : Unit), (s.fn H (ds ++ [])).results = [.lit (.bool true)]) (hfa : ∀ (_ : Unit), (s.fn H (ds ++ [])) = { results := [.lit (.bool true)], args := ds }) :
    s.post enc P f false true false false W args (.bool true) W' := by
  rw [List.append_nil] at hW
  have hsame : ∀ x ∈ before, W.sameAt W' x := fun x hx => hb.same (hlt x hx)
  have hfz : ∀ x ∈ before, W'.frozen? ⟨x.block, 0, none⟩ = W.frozen? ⟨x.block, 0, none⟩ := fun x hx => hb.frozen (p := ⟨x.block, 0, none⟩) (hlt x hx)
  have hRes : ∀ (bb : Nat) (sp : Nat → Bool) (hd : Bool), DataW.TrodAll enc P W' bb sp hd f.resultTypes.toList ((Value.bool true).resultList f.resultTypes.size) (s.fn H (ds ++ [])).results [] := by
    intro bb sp hd
    rw [hfn (), hres]
    exact trodAll_cons_mk (shut_bool hbool _) trodAll_mk0
  have hArgs : ∀ sp : Nat → Bool, (∀ x ∈ before, sp x.block = true) → DataW.TrodAll enc P W' 0 sp true f.params.toList args.toList (s.fn H (ds ++ [])).args before := by
    intro sp hsp
    rw [hfa ()]
    exact trodAll_stays hl hr hA hsame hsp
  have hVars : ∀ sp : Nat → Bool, DataW.TrodVars enc P W' sp s.vars (s.fn H (ds ++ [])).vars [] := by
    intro sp
    rw [hfa (), hvars]
    rfl
  have hold : ∀ x ∈ before, (fun b => decide (b < W.heap.size)) x.block = true := fun x hx => by simpa using hlt x hx
  refine ⟨ds, [], before, [], before, [], hW, hRes _ _ _, hArgs _ hold, hVars _, hb.frame _, fun _ => ?_⟩
  obtain ⟨_, _, _, _, _, hz, hn⟩ := hW
  refine ⟨?_, _, _, ([] ++ before) ++ [], ⟨[] ++ before, [], trodAll_append (hArgs _ (fun _ _ => rfl)) (hRes _ _ _), hVars _, rfl, ?_, fun h => by cases h⟩, ?_⟩
  · intro j t r h1 h2
    rw [hres] at h1 h2
    obtain ⟨rfl, rfl⟩ : j = 0 ∧ t = b := by
      rcases j with _ | j
      · simpa [eq_comm] using h1
      · simp at h1
    obtain rfl : r = .bool true := by simpa [Value.resultList, eq_comm] using h2
    exact okWide_bool_mk hbool _
  · intro b off hp
    have hp' : MemPlace.cell b off ∈ before := by simpa using hp
    rw [hb.frozen (p := ⟨b, off, none⟩) (hlt _ hp')]
    exact hz b off hp'
  · intro x hx _
    simpa using hx
end frame
end Go.Proofs.YtjnjecednkiakaaDoor
