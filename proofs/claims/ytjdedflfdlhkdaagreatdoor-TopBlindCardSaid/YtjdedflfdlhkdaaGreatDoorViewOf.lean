/- What some see: view.Of. -/
import Derived.Deep.RegionHeld3
import Derived.Test.YtjdedflfdlhkdaaGreatDoorKad
import Derived.Test.YtjdedflfdlhkdaaGreatDoorKaj
import Derived.Test.YtjdedflfdlhkdaaGreatDoorSameTold
import Derived.Test.YtjdedflfdlhkdaaGreatDoorWViewL
namespace Go.Proofs.YtjdedflfdlhkdaaGreatDoor
open Go.ChangeShapes Go.WideShapes Go.ChangeAt Go.RowKit
set_option linter.unusedVariables false

set_option maxRecDepth 100000 in
set_option maxHeartbeats 1000000 in
theorem cclone_env (v : Value) (n : Nat) (xs : List Value) (w : World) (h : Has w 4 v n xs) (h1 : xs.all Value.oneCell' = true) (hbytes : n * 32 ≤ 140737488355328) :
    Calls Tryz.prog 36 #[v] w fun e w' => ∃ v', e = .returned v' ∧ w'.ownsRow w.heap.size 86 4 v' n xs ∧ Below w.heap.size w w' := by
  obtain ⟨⟨hl, hnil⟩, a, cap, rfl, hn, hm, hc⟩ := h
  have q := fun w a n c n' c' => eql_nil Tryz.underlying54 w a n c n' c'
  have H1 := Lib.hid h1
  cases a with
  | none =>
    obtain ⟨rfl, rfl⟩ := hnil _ _ rfl
    obtain rfl : xs = [] := List.eq_nil_of_length_eq_zero (by simpa using hl)
    clear hc hnil hl h1
    go_enter Tryz.func36, Tryz.ntmps36
    go_wp2
    go_ret
    exact ⟨_, rfl, World.ownsRow_nil _ _ _ _, Below.refl _ _⟩
  | some a =>
    have Hs : Hid (∀ X, Below w.heap.size w X → Has X 4 (.slice (some a) n cap) n xs) := fun X hX => Has.below ⟨⟨hl, hnil⟩, some a, cap, rfl, hn, hm, hc⟩ hX
    have hn' : 0 + n ≤ maxLen := by omega
    have Hl := Lib.hid hl
    clear hc hnil hl h1
    go_enter Tryz.func36, Tryz.ntmps36
    go_wp2_with (at_builtin; refine wp_appN (w0 := w.alloc (.cells #[] 86)) 54 86 4 32 _ elEnv Tryz.underlying54 w.heap.size _ _ _ (World.ownsRow_made w #[] 0 (Nat.le_refl _) (Nat.zero_le _) rfl) (by repeat (first | exact Below.refl _ _ | refine Below.drew ?_ | refine Below.alloc ?_ (by first | (simp; done) | (simp; omega)) _ | refine Below.setCell ?_ (by first | (simp; done) | (simp; omega)) _)) _ _ _ (Hs.out _ ((Below.refl _ _).alloc (Nat.le_refl _) _)) rfl _ _ rfl rfl rfl H1.out (by omega) hn' (by simp) ?_; intro v3 w3 hown3 hgrow3 hb3)
    go_wp2
    go_ret
    exact ⟨_, rfl, by simpa using hown3, ((Below.refl _ w).alloc (Nat.le_refl _) _).trans hb3⟩

theorem envC_all (l : List Env) : (envC l).all Value.oneCell' = true := by
  rw [List.all_eq_true]
  intro v hv
  simp only [envC, List.mem_flatMap] at hv
  obtain ⟨p, _, hv⟩ := hv
  simp only [Env.cells, List.mem_cons, List.not_mem_nil, or_false] at hv
  rcases hv with rfl | rfl | rfl | rfl <;> rfl
theorem view_snoc (n x : Nat) (l : List Tld) (t : Tld) : viewOf n x (l ++ [t]) = viewOf n x l ++ [seenT n x t] := by unfold viewOf; rw [List.map_append]; rfl
def own0 : Own := fun _ => none
theorem fr0 {w : World} {v : Value} (h : InF (fun b => b < w.heap.size) v) : InF (Fr own0 w) v := h.mono fun b hb => ⟨rfl, hb⟩
theorem put11_far {w : World} {b i g : Nat} {v : Value} (h : w.cell? ⟨b, i, none⟩ = some v) (hbg : b ≠ g) (x0 x1 x2 x3 x4 x5 x6 x7 x8 x9 x10 : Value) : (put11 w g x0 x1 x2 x3 x4 x5 x6 x7 x8 x9 x10).cell? ⟨b, i, none⟩ = some v := by
  rw [World.cell?_of_block (w := w) (a := ⟨b, i, none⟩) (by
    show (put11 w g x0 x1 x2 x3 x4 x5 x6 x7 x8 x9 x10).heap[b]? = w.heap[b]?
    unfold put11
    rw [Below.heap_setCell _ _ _ _ hbg, Below.heap_setCell _ _ _ _ hbg, Below.heap_setCell _ _ _ _ hbg, Below.heap_setCell _ _ _ _ hbg, Below.heap_setCell _ _ _ _ hbg, Below.heap_setCell _ _ _ _ hbg, Below.heap_setCell _ _ _ _ hbg, Below.heap_setCell _ _ _ _ hbg, Below.heap_setCell _ _ _ _ hbg, Below.heap_setCell _ _ _ _ hbg, Below.heap_setCell _ _ _ _ hbg])]
  exact h
theorem far11c {w : World} {b i g : Nat} {v x0 x1 x2 x3 x4 x5 x6 x7 x8 x9 x10 : Value} (h : w.cell? ⟨b, i, none⟩ = some v) (hbg : b ≠ g) : (((((((((((w.setCell ⟨g, 0, none⟩ x0).setCell ⟨g, 1, none⟩ x1).setCell ⟨g, 2, none⟩ x2).setCell ⟨g, 3, none⟩ x3).setCell ⟨g, 4, none⟩ x4).setCell ⟨g, 5, none⟩ x5).setCell ⟨g, 6, none⟩ x6).setCell ⟨g, 7, none⟩ x7).setCell ⟨g, 8, none⟩ x8).setCell ⟨g, 9, none⟩ x9).setCell ⟨g, 10, none⟩ x10).cell? ⟨b, i, none⟩ = some v := put11_far h hbg x0 x1 x2 x3 x4 x5 x6 x7 x8 x9 x10
theorem put8_at {w : World} {S : Nat} {a0 a1 a2 a3 a4 a5 a6 a7 a8 a9 a10 : Value} {e : TypeId} (h : w.heap[S]? = some (.cells #[a0, a1, a2, a3, a4, a5, a6, a7, a8, a9, a10] e (0, 0))) (x0 x2 x3 x4 x5 x6 x7 x9 : Value) : ((((((((w.setCell ⟨S, 0, none⟩ x0).setCell ⟨S, 2, none⟩ x2).setCell ⟨S, 3, none⟩ x3).setCell ⟨S, 4, none⟩ x4).setCell ⟨S, 5, none⟩ x5).setCell ⟨S, 6, none⟩ x6).setCell ⟨S, 7, none⟩ x7).setCell ⟨S, 9, none⟩ x9).heap[S]? = some (.cells #[x0, a1, x2, x3, x4, x5, x6, x7, a8, x9, a10] e (0, 0)) := by
  have h1 : (w.setCell ⟨S, 0, none⟩ x0).heap[S]? = some (.cells #[x0, a1, a2, a3, a4, a5, a6, a7, a8, a9, a10] e (0, 0)) := heap_setCell_same _ S 0 _ _ x0 h
  generalize (w.setCell ⟨S, 0, none⟩ x0) = W0 at *
  have h2 : (W0.setCell ⟨S, 2, none⟩ x2).heap[S]? = some (.cells #[x0, a1, x2, a3, a4, a5, a6, a7, a8, a9, a10] e (0, 0)) := heap_setCell_same _ S 2 _ _ x2 h1
  generalize (W0.setCell ⟨S, 2, none⟩ x2) = W1 at *
  have h3 : (W1.setCell ⟨S, 3, none⟩ x3).heap[S]? = some (.cells #[x0, a1, x2, x3, a4, a5, a6, a7, a8, a9, a10] e (0, 0)) := heap_setCell_same _ S 3 _ _ x3 h2
  generalize (W1.setCell ⟨S, 3, none⟩ x3) = W2 at *
  have h4 : (W2.setCell ⟨S, 4, none⟩ x4).heap[S]? = some (.cells #[x0, a1, x2, x3, x4, a5, a6, a7, a8, a9, a10] e (0, 0)) := heap_setCell_same _ S 4 _ _ x4 h3
  generalize (W2.setCell ⟨S, 4, none⟩ x4) = W3 at *
  have h5 : (W3.setCell ⟨S, 5, none⟩ x5).heap[S]? = some (.cells #[x0, a1, x2, x3, x4, x5, a6, a7, a8, a9, a10] e (0, 0)) := heap_setCell_same _ S 5 _ _ x5 h4
  generalize (W3.setCell ⟨S, 5, none⟩ x5) = W4 at *
  have h6 : (W4.setCell ⟨S, 6, none⟩ x6).heap[S]? = some (.cells #[x0, a1, x2, x3, x4, x5, x6, a7, a8, a9, a10] e (0, 0)) := heap_setCell_same _ S 6 _ _ x6 h5
  generalize (W4.setCell ⟨S, 6, none⟩ x6) = W5 at *
  have h7 : (W5.setCell ⟨S, 7, none⟩ x7).heap[S]? = some (.cells #[x0, a1, x2, x3, x4, x5, x6, x7, a8, a9, a10] e (0, 0)) := heap_setCell_same _ S 7 _ _ x7 h6
  generalize (W5.setCell ⟨S, 7, none⟩ x7) = W6 at *
  have h8 : (W6.setCell ⟨S, 9, none⟩ x9).heap[S]? = some (.cells #[x0, a1, x2, x3, x4, x5, x6, x7, a8, x9, a10] e (0, 0)) := heap_setCell_same _ S 9 _ _ x9 h7
  generalize (W6.setCell ⟨S, 9, none⟩ x9) = W7 at *
  exact h8
theorem put8_off {w : World} {S b : Nat} (hb : b ≠ S) (x0 x2 x3 x4 x5 x6 x7 x9 : Value) : ((((((((w.setCell ⟨S, 0, none⟩ x0).setCell ⟨S, 2, none⟩ x2).setCell ⟨S, 3, none⟩ x3).setCell ⟨S, 4, none⟩ x4).setCell ⟨S, 5, none⟩ x5).setCell ⟨S, 6, none⟩ x6).setCell ⟨S, 7, none⟩ x7).setCell ⟨S, 9, none⟩ x9).heap[b]? = w.heap[b]? := by
  rw [Below.heap_setCell _ _ _ _ hb, Below.heap_setCell _ _ _ _ hb, Below.heap_setCell _ _ _ _ hb, Below.heap_setCell _ _ _ _ hb, Below.heap_setCell _ _ _ _ hb, Below.heap_setCell _ _ _ _ hb, Below.heap_setCell _ _ _ _ hb, Below.heap_setCell _ _ _ _ hb]
theorem put8_size (w : World) (S : Nat) (x0 x2 x3 x4 x5 x6 x7 x9 : Value) : ((((((((w.setCell ⟨S, 0, none⟩ x0).setCell ⟨S, 2, none⟩ x2).setCell ⟨S, 3, none⟩ x3).setCell ⟨S, 4, none⟩ x4).setCell ⟨S, 5, none⟩ x5).setCell ⟨S, 6, none⟩ x6).setCell ⟨S, 7, none⟩ x7).setCell ⟨S, 9, none⟩ x9).heap.size = w.heap.size := by simp [World.setCell]
theorem below_grown9 {B : Nat} {a w w' : World} {blk : Option Nat} (h : Below B a w) (hB : B ≤ a.heap.size) (hg : w.grownBy w' blk) (hb : ∀ g, blk = some g → B ≤ g) : Below B a w' :=
  h.trans ⟨hg.os, hg.tape, hg.output, hg.size, fun k hk => hg.block k (Nat.lt_of_lt_of_le hk (Nat.le_trans hB h.size)) fun e => by have := hb k e.symm; omega⟩
theorem InF_owns2 {w : World} {base e sz n : Nat} {v : Value} {xs : List Value} (h : w.ownsRow base e sz v n xs) : InF (fun b => base ≤ b ∧ b < w.heap.size) v := fun b off n' c hv => by
  subst hv
  obtain ⟨h1, h2, _⟩ := owns_block_of h rfl
  exact ⟨h1, h2⟩
theorem at_callW {P : Program} {f : Nat} {args : Array Value} {Q : Ending → World → Prop} (wx : World) (h : Calls P f args wx Q) : Calls P f args wx Q := h
structure Seen0 (W wx : World) (g : Nat) (tw : Int) (ts : List Env) (tr : List Int) (s r : Value) : Prop where
  hb : wx.heap[g]? = some (.cells #[.int .i64 0, .int .i64 tw, .int .i64 0, .int .i64 0, .int .i64 0, .int .i64 0, .int .i64 0, .int .i64 0, s, .slice none 0 0, r] 57 (0, 0))
  lo : W.heap.size ≤ g
  hs : Has wx 4 s ts.length (envC ts)
  hr : Has wx 1 r tr.length (ints tr)
  si : InF (fun b => W.heap.size ≤ b ∧ b ≠ g ∧ b < wx.heap.size) s
  ri : InF (fun b => W.heap.size ≤ b ∧ b ≠ g ∧ b < wx.heap.size) r
  bw : Below W.heap.size W wx
theorem Seen0.fresh {W w6 : World} {tw : Int} {ts : List Env} {tr : List Int} {s r : Value} (hs : Has w6 4 s ts.length (envC ts)) (hr : Has w6 1 r tr.length (ints tr)) (si : InF (fun b => W.heap.size ≤ b ∧ b < w6.heap.size) s) (ri : InF (fun b => W.heap.size ≤ b ∧ b < w6.heap.size) r) (hb : Below W.heap.size W w6) :
    Seen0 W (w6.alloc (.cells #[.int .i64 0, .int .i64 tw, .int .i64 0, .int .i64 0, .int .i64 0, .int .i64 0, .int .i64 0, .int .i64 0, s, .slice none 0 0, r] 57)) w6.heap.size tw ts tr s r :=
  have q : Below w6.heap.size w6 (w6.alloc (.cells #[.int .i64 0, .int .i64 tw, .int .i64 0, .int .i64 0, .int .i64 0, .int .i64 0, .int .i64 0, .int .i64 0, s, .slice none 0 0, r] 57)) := (Below.refl _ _).alloc (Nat.le_refl _) _
  ⟨heap_alloc_new _ _, hb.size, hs.below q, hr.below q, si.mono fun b h => ⟨h.1, by omega, Nat.lt_of_lt_of_le h.2 q.size⟩, ri.mono fun b h => ⟨h.1, by omega, Nat.lt_of_lt_of_le h.2 q.size⟩, hb.trans (q.mono hb.size)⟩
theorem Seen0.put {W w6 : World} {g : Nat} {a0 a1 a2 a3 a4 a5 a6 a7 a8 a9 a10 : Value} {tw : Int} {ts : List Env} {tr : List Int} {s r : Value} (hz : w6.heap[g]? = some (.cells #[a0, a1, a2, a3, a4, a5, a6, a7, a8, a9, a10] 57 (0, 0))) (hg : W.heap.size ≤ g) (hs : Has w6 4 s ts.length (envC ts)) (hr : Has w6 1 r tr.length (ints tr)) (si : InF (fun b => W.heap.size ≤ b ∧ b ≠ g ∧ b < w6.heap.size) s) (ri : InF (fun b => W.heap.size ≤ b ∧ b ≠ g ∧ b < w6.heap.size) r) (hb : Below W.heap.size W w6) :
    Seen0 W (put11 w6 g (.int .i64 0) (.int .i64 tw) (.int .i64 0) (.int .i64 0) (.int .i64 0) (.int .i64 0) (.int .i64 0) (.int .i64 0) s (.slice none 0 0) r) g tw ts tr s r := by
  have hk : ∀ b, b < w6.heap.size → b ≠ g → (put11 w6 g (.int .i64 0) (.int .i64 tw) (.int .i64 0) (.int .i64 0) (.int .i64 0) (.int .i64 0) (.int .i64 0) (.int .i64 0) s (.slice none 0 0) r).heap[b]? = w6.heap[b]? := fun b _ hb => by
    have hbg : b ≠ g := hb
    unfold put11
    rw [Below.heap_setCell _ _ _ _ hbg, Below.heap_setCell _ _ _ _ hbg, Below.heap_setCell _ _ _ _ hbg, Below.heap_setCell _ _ _ _ hbg, Below.heap_setCell _ _ _ _ hbg, Below.heap_setCell _ _ _ _ hbg, Below.heap_setCell _ _ _ _ hbg, Below.heap_setCell _ _ _ _ hbg, Below.heap_setCell _ _ _ _ hbg, Below.heap_setCell _ _ _ _ hbg, Below.heap_setCell _ _ _ _ hbg]
  exact ⟨put11_at hz _ _ _ _ _ _ _ _ _ _ _, hg, hs.kept (F := fun b => b ≠ g) (si.mono fun b h => h.2.1) hk, hr.kept (F := fun b => b ≠ g) (ri.mono fun b h => h.2.1) hk, si.mono fun b h => ⟨h.1, h.2.1, by rw [put11_size]; exact h.2.2⟩, ri.mono fun b h => ⟨h.1, h.2.1, by rw [put11_size]; exact h.2.2⟩, put11_below hb hg _ _ _ _ _ _ _ _ _ _ _⟩
structure Seen1 (W wx : World) (g : Nat) (cs : Array Value) (ts : List Env) (tf : List Nat) (tr : List Int) (s f r : Value) : Prop where
  hb : wx.heap[g]? = some (.cells cs 57 (0, 0))
  hs : Has wx 4 s ts.length (envC ts)
  hf : Has wx 1 f tf.length (u8s tf)
  hr : Has wx 1 r tr.length (ints tr)
  si : InF (fun b => W.heap.size ≤ b ∧ b < wx.heap.size) s
  fi : InF (fun b => W.heap.size ≤ b ∧ b < wx.heap.size) f
  ri : InF (fun b => W.heap.size ≤ b ∧ b < wx.heap.size) r
  bw : Below W.heap.size W wx
theorem Seen0.full {W wc w5 : World} {g : Nat} {tw : Int} {ts : List Env} {tf : List Nat} {tr : List Int} {s f r : Value} (h : Seen0 W wc g tw ts tr s r) (hb5 : Below wc.heap.size wc w5) (hf : Has w5 1 f tf.length (u8s tf)) (fi : InF (fun b => wc.heap.size ≤ b ∧ b < w5.heap.size) f) (x0 x2 x3 x4 x5 x6 x7 x9 : Value) :
    Seen1 W ((((((((w5.setCell ⟨g, 0, none⟩ x0).setCell ⟨g, 2, none⟩ x2).setCell ⟨g, 3, none⟩ x3).setCell ⟨g, 4, none⟩ x4).setCell ⟨g, 5, none⟩ x5).setCell ⟨g, 6, none⟩ x6).setCell ⟨g, 7, none⟩ x7).setCell ⟨g, 9, none⟩ x9) g #[x0, .int .i64 tw, x2, x3, x4, x5, x6, x7, s, x9, r] ts tf tr s f r := by
  have lg := (Array.getElem?_eq_some_iff.1 h.hb).1
  have hz := (hb5.block _ lg).trans h.hb
  have s5 := hb5.size
  have sW := h.bw.size
  have hk : ∀ b, b < w5.heap.size → b ≠ g → ((((((((w5.setCell ⟨g, 0, none⟩ x0).setCell ⟨g, 2, none⟩ x2).setCell ⟨g, 3, none⟩ x3).setCell ⟨g, 4, none⟩ x4).setCell ⟨g, 5, none⟩ x5).setCell ⟨g, 6, none⟩ x6).setCell ⟨g, 7, none⟩ x7).setCell ⟨g, 9, none⟩ x9).heap[b]? = w5.heap[b]? := fun b _ hb => put8_off hb x0 x2 x3 x4 x5 x6 x7 x9
  have hsz := put8_size w5 g x0 x2 x3 x4 x5 x6 x7 x9
  refine ⟨put8_at hz x0 x2 x3 x4 x5 x6 x7 x9, (h.hs.below hb5).kept (F := fun b => b ≠ g) (h.si.mono fun b h => h.2.1) hk, hf.kept (F := fun b => b ≠ g) (fi.mono fun b h => by have := h.1; omega) hk, (h.hr.below hb5).kept (F := fun b => b ≠ g) (h.ri.mono fun b h => h.2.1) hk, h.si.mono fun b q => ⟨q.1, by rw [hsz]; have := q.2.2; omega⟩, fi.mono fun b q => ⟨by have := q.1; omega, by rw [hsz]; exact q.2⟩, h.ri.mono fun b q => ⟨q.1, by rw [hsz]; have := q.2.2; omega⟩, ?_⟩
  have hbW := h.bw.trans (hb5.mono sW)
  exact (((((((hbW.setCell h.lo _).setCell h.lo _).setCell h.lo _).setCell h.lo _).setCell h.lo _).setCell h.lo _).setCell h.lo _).setCell h.lo _
set_option maxRecDepth 100000 in
set_option maxHeartbeats 16000000 in
theorem cViewOf {w : World} {c : Cfg} {vl vm : Value} (hc : c.Ok) (hcfg : CfgAt w c vl vm) {out : Value} {T : List Tld} {sv fv rv : Nat → Value} (h : TldsH w out T sv fv rv) (hlen : T.length ≤ 300) (hbd : ∀ t ∈ T, t.sent.length ≤ 1000000 ∧ t.frame.length ≤ 1000000 ∧ t.report.length ≤ 1000000) (x : Nat) (hx : x < 2 ^ c.n) :
    Calls Tryz.prog 23 #[.agg (c.cells vl vm), out, .int .i64 x] w fun e w' => ∃ out' sv' fv' rv', e = .returned (.tuple #[out', .int .i64 0]) ∧ TldsH w' out' (viewOf c.n x T) sv' fv' rv' ∧ Below w.heap.size w w' := by
  have hbx := cfg_box w c vl vm
  obtain ⟨x0, x1, x2, x3, x4⟩ := cfg_at (heap_alloc_new w (.cells (c.cells vl vm) 25))
  have hn := hc.n
  have hx16 : x < 16 := Nat.lt_of_lt_of_le hx (Nat.le_trans (Nat.pow_le_pow_right (by omega) hn.2) (by decide))
  have CM := Lib.hid (cFMay hc (hcfg.on hbx))
  have CL := Lib.hid (fun X => lmay_true (x : Int) (by omega) (by omega) X)
  have HT := Lib.hid (h.on hbx)
  have HBD := Lib.hid hbd
  have HBX := Lib.hid hbx
  obtain ⟨_, oa, oc, rfl, _, ho2, _⟩ := h.row
  obtain ⟨_, la, cl, rfl, _⟩ := hcfg.hl
  obtain ⟨_, ma, cm, rfl, _⟩ := hcfg.hm
  unfold maxLen at ho2
  unfold Cfg.cells at *
  clear hc hcfg h hbx hbd
  go_enter Tryz.func23, Tryz.ntmps23
  go_upto_region 1 with (fail)
  generalize (w.alloc (.cells #[.int .i64 c.n, .slice la c.labs.length cl, .int .i64 c.ticks, .slice ma c.minted.length cm, .int .i64 c.cap] 25)) = W1 at *
  go_wp2_with fail
  refine CM.out.mono ?_
  rintro e w2 ⟨rfl, hb2⟩
  have x0 := cell_on hb2 x0
  have HB2 := Lib.hid (HBX.out.trans (hb2.mono HBX.out.size))
  have HT2 := Lib.hid (HT.out.on hb2)
  clear hb2 HT HBX CM x1 x2 x3 x4
  have hsh : (x : Int) / 2 ^ c.n = 0 := Int.ediv_eq_zero_of_lt (by omega) (by exact_mod_cast hx)
  go_wp2_with ((go_at_call 35; refine (CL.out _).mono ?_; rintro e w' ⟨rfl, rfl⟩))
  have X0 := Lib.hid x0
  clear hsh x0 CL
  have CE : Hid (∀ (W8 : World) (v : Value) (es : List Env) (Y : World), Below W8.heap.size W8 Y → Has W8 4 v es.length (envC es) → es.length ≤ 1000000 → Calls Tryz.prog 36 #[v] Y fun e w' => ∃ v', e = .returned v' ∧ w'.ownsRow Y.heap.size 86 4 v' es.length (envC es) ∧ Below Y.heap.size Y w') := fun W8 v es Y hY h hl => cclone_env v es.length (envC es) Y (h.below hY) (envC_all es) (by omega)
  go_loopw [8, 10, 11, 29] (fun o _ _ j wr => ∃ (k : Nat) (sv' fv' rv' : Nat → Value), k ≤ T.length ∧ j = .int .i64 k ∧ Hid (Below w2.heap.size w2 wr) ∧ Hid (OutAt wr own0 w2.heap.size o (viewOf c.n x (T.take k)) sv' fv' rv')) (fun _ _ _ j _ => T.length - (intOf j).toNat)
  case atStart => exact ⟨0, fun _ => .slice none 0 0, fun _ => .slice none 0 0, fun _ => .slice none 0 0, by omega, rfl, Below.refl _ _, ⟨World.ownsRow_nil _ _ _ _, fun g h => rfl, fun i hi => by simp [viewOf] at hi⟩⟩
  case round =>
    obtain ⟨k, sv', fv', rv', hk, rfl, HB, HO⟩ := hrel
    by_cases hlt : k < T.length
    · have hltz : (k : Int) < (T.length : Int) := by omega
      obtain ⟨tb, tp, tcap, he, -, -, hcell⟩ := HT2.out.at k hlt
      simp only [Value.slice.injEq] at he
      obtain ⟨rfl, -, rfl⟩ := he
      have HRD := Lib.hid ((⟨HT2.out.s k hlt, HT2.out.f k hlt, HT2.out.r k hlt⟩ : RdT _ _ _ _ _))
      have hsn : Hid (viewOf c.n x (T.take (k + 1)) = viewOf c.n x (T.take k) ++ [seenT c.n x (T[k]'hlt)]) := by show _ = _; rw [take_snoc _ _ hlt, view_snoc]
      have hvl : Hid ((viewOf c.n x (T.take k)).length = k) := by show _ = _; rw [view_len, List.length_take]; omega
      have z : ∀ j u, j < 11 → ((T[k]'hlt).cells (sv k) (fv k) (rv k))[j]? = some u → wr.cell? ⟨tb, tp + k * 11 + j, none⟩ = some u := fun j u hj hu => cell_on HB.out (hcell j u hj hu)
      have HLT := Lib.hid hlt
      have hbd := HBD.out (T[k]'hlt) (List.getElem_mem _)
      clear hcell hk
      generalize (T[k]'hlt) = t at *
      obtain ⟨tc, tw, ⟨kc, ki, kf, kh, ku⟩, tv, ts, tf, tr⟩ := t
      obtain ⟨sa, sc, hsv⟩ : ∃ a cap, sv k = .slice a ts.length cap := by obtain ⟨_, a, cap, he, _⟩ := HRD.out.s; exact ⟨a, cap, he⟩
      obtain ⟨fa, fc, hfv⟩ : ∃ a cap, fv k = .slice a tf.length cap := by obtain ⟨_, a, cap, he, _⟩ := HRD.out.f; exact ⟨a, cap, he⟩
      obtain ⟨ra, rc, hrv⟩ : ∃ a cap, rv k = .slice a tr.length cap := by obtain ⟨_, a, cap, he, _⟩ := HRD.out.r; exact ⟨a, cap, he⟩
      rw [hsv, hfv, hrv] at HRD z
      clear hsv hfv hrv hlt
      unfold Tld.cells tldC at z
      simp only at z
      have z0 := z 0 _ (by omega) rfl
      rw [Nat.add_zero] at z0
      have z1 := z 1 _ (by omega) rfl
      have z2 := z 2 _ (by omega) rfl
      have z3 := z 3 _ (by omega) rfl
      have z4 := z 4 _ (by omega) rfl
      have z5 := z 5 _ (by omega) rfl
      have z6 := z 6 _ (by omega) rfl
      have z7 := z 7 _ (by omega) rfl
      have z8 := z 8 _ (by omega) rfl
      have z9 := z 9 _ (by omega) rfl
      have z10 := z 10 _ (by omega) rfl
      clear z
      obtain ⟨qa, qc, rfl⟩ := owns_slice HO.out.row
      have hb8 : Below wr.heap.size wr (wr.alloc (.cells #[.int .i64 tc, .int .i64 tw, .int .i64 kc, .int .i64 ki, .int .i64 kf, .int .i64 kh, .int .i64 ku, .int .i64 tv, .slice sa ts.length sc, .slice fa tf.length fc, .slice ra tr.length rc] 57)) := (Below.refl _ _).alloc (Nat.le_refl _) _
      obtain ⟨⟨y0, y1, y2, y3, y4, y5, y6, y7, y8, y9, y10⟩, -⟩ := eleven_at (heap_alloc_new wr (.cells #[.int .i64 tc, .int .i64 tw, .int .i64 kc, .int .i64 ki, .int .i64 kf, .int .i64 kh, .int .i64 ku, .int .i64 tv, .slice sa ts.length sc, .slice fa tf.length fc, .slice ra tr.length rc] 57))
      have HO8 := Lib.hid (HO.out.on hb8 (fun b h => absurd rfl h))
      have HB8 := Lib.hid (HB.out.trans (hb8.mono HB.out.size))
      have HRD8 := Lib.hid (HRD.out.on (HB.out.trans (hb8.mono HB.out.size)))
      clear hb8 HO HB HRD
      go_upto_region 9 with (fail)
      clear z0 z1 z2 z3 z4 z5 z6 z7 z8 z9 z10
      obtain ⟨b10, hb10⟩ : ∃ y, y = wr.heap.size := ⟨_, rfl⟩
      rw [← hb10] at y0 y1 y2 y3 y4 y5 y6 y7 y8 y9 y10 ⊢
      generalize (wr.alloc (.cells #[.int .i64 tc, .int .i64 tw, .int .i64 kc, .int .i64 ki, .int .i64 kf, .int .i64 kh, .int .i64 ku, .int .i64 tv, .slice sa ts.length sc, .slice fa tf.length fc, .slice ra tr.length rc] 57)) = W8 at *
      clear hb10
      have lb10 := World.block_lt_of_cell? W8 _ y0
      simp only at lb10
      have hlg : b10 ≠ W8.heap.size := by omega
      obtain ⟨hsl, hfl, hrl⟩ := hbd
      simp only at hsl hfl hrl
      have CI : Hid (∀ (Y : World), Below W8.heap.size W8 Y → _) := fun Y hY => cclone_int (.slice ra tr.length rc) tr.length (ints tr) Y (HRD8.out.r.below hY) (ints_one _) (by omega)
      go_cut [11] (fun v wx => ∃ g s' r', v = .pointer (some ⟨g, 0, none⟩) ∧ Hid (Seen0 W8 wx g tw ts tr s' r'))
      case first =>
        go_region_held3 (fun Z => Z.cell? ⟨b10, 1, none⟩ = some (.int .i64 tw) ∧ Z.cell? ⟨b10, 8, none⟩ = some (.slice sa ts.length sc) ∧ Z.cell? ⟨b10, 10, none⟩ = some (.slice ra tr.length rc))
          (first | with_reducible exact ⟨j0, j1, j2⟩ | with_reducible exact ⟨i0, i1, i2⟩ | with_reducible exact ⟨far11c j0 hl5, far11c j1 hl5, far11c j2 hl5⟩ | with_reducible exact ⟨far11c j0 hlg, far11c j1 hlg, far11c j2 hlg⟩ | go_keep)
          ((first
            | ((with_reducible refine at_callW W8.drew ?_); go_at_call 36; refine (CE.out W8 _ ts _ (Below.drew (Below.refl W8.heap.size W8)) HRD8.out.s hsl).mono ?_; rintro e w5 ⟨s', rfl, hown5, hb5'⟩; obtain ⟨sa', sc', rfl⟩ := owns_slice hown5; have hb5 : Below W8.heap.size W8 w5 := Below.trans (Below.drew (Below.refl W8.heap.size W8)) (hb5'.mono (Below.size (Below.drew (Below.refl W8.heap.size W8)))); have i0 := cell_on hb5 y1; have i1 := cell_on hb5 y8; have i2 := cell_on hb5 y10; have HS5 := Lib.hid (Has.of_owns hown5); have HI5 : Hid (InF (fun b => W8.drew.heap.size ≤ b ∧ b < w5.heap.size) (.slice sa' ts.length sc')) := InF_owns2 hown5; have HB5 := Lib.hid hb5; have hl5 : b10 ≠ w5.heap.size := (by have := hb5.size; omega); clear hown5 hb5 hb5')
            | ((with_reducible refine at_callW (W8.alloc (.cells #[.int .i64 0, .int .i64 0, .int .i64 0, .int .i64 0, .int .i64 0, .int .i64 0, .int .i64 0, .int .i64 0, .slice none 0 0, .slice none 0 0, .slice none 0 0] 57)).drew ?_); go_at_call 36; refine (CE.out W8 _ ts _ (Below.drew (Below.alloc (Below.refl _ W8) (Nat.le_refl _) (.cells #[.int .i64 0, .int .i64 0, .int .i64 0, .int .i64 0, .int .i64 0, .int .i64 0, .int .i64 0, .int .i64 0, .slice none 0 0, .slice none 0 0, .slice none 0 0] 57))) HRD8.out.s hsl).mono ?_; rintro e w5 ⟨s', rfl, hown5, hb5'⟩; obtain ⟨sa', sc', rfl⟩ := owns_slice hown5; have hb5 : Below W8.heap.size W8 w5 := Below.trans (Below.drew (Below.alloc (Below.refl _ W8) (Nat.le_refl _) (.cells #[.int .i64 0, .int .i64 0, .int .i64 0, .int .i64 0, .int .i64 0, .int .i64 0, .int .i64 0, .int .i64 0, .slice none 0 0, .slice none 0 0, .slice none 0 0] 57))) (hb5'.mono (Below.size (Below.drew (Below.alloc (Below.refl _ W8) (Nat.le_refl _) (.cells #[.int .i64 0, .int .i64 0, .int .i64 0, .int .i64 0, .int .i64 0, .int .i64 0, .int .i64 0, .int .i64 0, .slice none 0 0, .slice none 0 0, .slice none 0 0] 57))))); have i0 := cell_on hb5 y1; have i1 := cell_on hb5 y8; have i2 := cell_on hb5 y10; have HS5 := Lib.hid (Has.of_owns hown5); have HI5 : Hid (InF (fun b => (W8.alloc (.cells #[.int .i64 0, .int .i64 0, .int .i64 0, .int .i64 0, .int .i64 0, .int .i64 0, .int .i64 0, .int .i64 0, .slice none 0 0, .slice none 0 0, .slice none 0 0] 57)).drew.heap.size ≤ b ∧ b < w5.heap.size) (.slice sa' ts.length sc')) := InF_owns2 hown5; have HB5 := Lib.hid hb5; have hl5 : b10 ≠ w5.heap.size := (by have := hb5.size; omega); have HZA : Hid (w5.heap[W8.heap.size]? = some (.cells #[.int .i64 0, .int .i64 0, .int .i64 0, .int .i64 0, .int .i64 0, .int .i64 0, .int .i64 0, .int .i64 0, .slice none 0 0, .slice none 0 0, .slice none 0 0] 57 (0, 0))) := (by rw [hb5'.block _ (by simp)]; exact heap_alloc_new W8 _); clear hown5 hb5 hb5')
            | ((with_reducible refine at_callW w5 ?_); go_at_call 37; refine (CI.out _ (HB5.out.trans (Below.mono (Below.refl w5.heap.size w5) HB5.out.size))).mono ?_; rintro e w6 ⟨r', rfl, hown6, hb6'⟩; obtain ⟨ra', rc', rfl⟩ := owns_slice hown6; have hb56 : Below w5.heap.size w5 w6 := Below.trans (Below.refl w5.heap.size w5) (hb6'.mono (Below.size (Below.refl w5.heap.size w5))); have hb6 : Below W8.heap.size W8 w6 := HB5.out.trans (hb56.mono HB5.out.size); have j0 := cell_on hb6 y1; have j1 := cell_on hb6 y8; have j2 := cell_on hb6 y10; have HR6 := Lib.hid (Has.of_owns hown6); have HI6 : Hid (InF (fun b => w5.heap.size ≤ b ∧ b < w6.heap.size) (.slice ra' tr.length rc')) := InF_owns2 hown6; have HS6 := Lib.hid (HS5.out.below hb56); have HB6 := Lib.hid hb6; have HZ56 := Lib.hid hb56.size; (try (have HZ6 : Hid (w6.heap[W8.heap.size]? = some (.cells #[.int .i64 0, .int .i64 0, .int .i64 0, .int .i64 0, .int .i64 0, .int .i64 0, .int .i64 0, .int .i64 0, .slice none 0 0, .slice none 0 0, .slice none 0 0] 57 (0, 0))) := (by rw [hb56.block _ (Array.getElem?_eq_some_iff.1 HZA.out).1]; exact HZA.out); obtain ⟨⟨g0, g1, g2, g3, g4, g5, g6, g7, g8, g9, g10⟩, gf⟩ := eleven_at HZ6.out; have gf0 := gf 0; have gf1 := gf 1; have gf2 := gf 2; have gf3 := gf 3; have gf4 := gf 4; have gf5 := gf 5; have gf6 := gf 6; have gf7 := gf 7; have gf8 := gf 8; have gf9 := gf 9; have gf10 := gf 10; clear gf)); clear hown6 hb6 hb56 hb6')
            | ((with_reducible refine at_callW (w5.alloc (.cells #[.int .i64 0, .int .i64 0, .int .i64 0, .int .i64 0, .int .i64 0, .int .i64 0, .int .i64 0, .int .i64 0, .slice none 0 0, .slice none 0 0, .slice none 0 0] 57)) ?_); go_at_call 37; refine (CI.out _ (HB5.out.trans (Below.mono (Below.alloc (Below.refl _ w5) (Nat.le_refl _) (.cells #[.int .i64 0, .int .i64 0, .int .i64 0, .int .i64 0, .int .i64 0, .int .i64 0, .int .i64 0, .int .i64 0, .slice none 0 0, .slice none 0 0, .slice none 0 0] 57)) HB5.out.size))).mono ?_; rintro e w6 ⟨r', rfl, hown6, hb6'⟩; obtain ⟨ra', rc', rfl⟩ := owns_slice hown6; have hb56 : Below w5.heap.size w5 w6 := Below.trans (Below.alloc (Below.refl _ w5) (Nat.le_refl _) (.cells #[.int .i64 0, .int .i64 0, .int .i64 0, .int .i64 0, .int .i64 0, .int .i64 0, .int .i64 0, .int .i64 0, .slice none 0 0, .slice none 0 0, .slice none 0 0] 57)) (hb6'.mono (Below.size (Below.alloc (Below.refl _ w5) (Nat.le_refl _) (.cells #[.int .i64 0, .int .i64 0, .int .i64 0, .int .i64 0, .int .i64 0, .int .i64 0, .int .i64 0, .int .i64 0, .slice none 0 0, .slice none 0 0, .slice none 0 0] 57)))); have hb6 : Below W8.heap.size W8 w6 := HB5.out.trans (hb56.mono HB5.out.size); have j0 := cell_on hb6 y1; have j1 := cell_on hb6 y8; have j2 := cell_on hb6 y10; have HR6 := Lib.hid (Has.of_owns hown6); have HI6 : Hid (InF (fun b => (w5.alloc (.cells #[.int .i64 0, .int .i64 0, .int .i64 0, .int .i64 0, .int .i64 0, .int .i64 0, .int .i64 0, .int .i64 0, .slice none 0 0, .slice none 0 0, .slice none 0 0] 57)).heap.size ≤ b ∧ b < w6.heap.size) (.slice ra' tr.length rc')) := InF_owns2 hown6; have HS6 := Lib.hid (HS5.out.below hb56); have HB6 := Lib.hid hb6; have HZ56 := Lib.hid hb56.size; have HZ7 : Hid (w6.heap[w5.heap.size]? = some (.cells #[.int .i64 0, .int .i64 0, .int .i64 0, .int .i64 0, .int .i64 0, .int .i64 0, .int .i64 0, .int .i64 0, .slice none 0 0, .slice none 0 0, .slice none 0 0] 57 (0, 0))) := (by rw [hb6'.block _ (by simp)]; exact heap_alloc_new w5 _); obtain ⟨⟨g0, g1, g2, g3, g4, g5, g6, g7, g8, g9, g10⟩, gf⟩ := eleven_at HZ7.out; have gf0 := gf 0; have gf1 := gf 1; have gf2 := gf 2; have gf3 := gf 3; have gf4 := gf 4; have gf5 := gf 5; have gf6 := gf 6; have gf7 := gf 7; have gf8 := gf 8; have gf9 := gf 9; have gf10 := gf 10; clear gf; clear hown6 hb6 hb56 hb6')))
        all_goals
          go_wp2_with fail
          go_meet
          first
          | (refine ⟨w6.heap.size, .slice sa' ts.length sc', .slice ra' tr.length rc', rfl, ?_⟩; exact Seen0.fresh HS6.out HR6.out (HI5.out.mono fun b h => ⟨h.1, Nat.lt_of_lt_of_le h.2 HZ56.out⟩) (HI6.out.mono fun b h => ⟨Nat.le_trans HB5.out.size h.1, h.2⟩) HB6.out)
          | (refine ⟨W8.heap.size, .slice sa' ts.length sc', .slice ra' tr.length rc', rfl, ?_⟩; exact Seen0.put HZ6.out (Nat.le_refl _) HS6.out HR6.out (HI5.out.mono fun b h => by have h1 := h.1; have h2 := h.2; have h3 := HZ56.out; simp at h1; exact ⟨by omega, by omega, by omega⟩) (HI6.out.mono fun b h => by have h1 := h.1; have h3 := (Array.getElem?_eq_some_iff.1 HZA.out).1; have h4 := HB5.out.size; exact ⟨by omega, by omega, h.2⟩) HB6.out)
          | (refine ⟨w5.heap.size, .slice sa' ts.length sc', .slice ra' tr.length rc', rfl, ?_⟩; exact Seen0.put HZ7.out HB5.out.size HS6.out HR6.out (HI5.out.mono fun b h => by have h1 := h.1; have h2 := h.2; have h3 := HZ56.out; exact ⟨h1, by omega, by omega⟩) (HI6.out.mono fun b h => by have h1 := h.1; have h4 := HB5.out.size; simp at h1; exact ⟨by omega, by omega, h.2⟩) HB6.out)
          | trace_state
      case rest =>
      obtain ⟨g, s', r', rfl, HS⟩ := hcut
      obtain ⟨sa', sc', rfl⟩ : ∃ a cap, s' = .slice a ts.length cap := by obtain ⟨_, a, cap, he, _⟩ := HS.out.hs; exact ⟨a, cap, he⟩
      obtain ⟨ra', rc', rfl⟩ : ∃ a cap, r' = .slice a tr.length cap := by obtain ⟨_, a, cap, he, _⟩ := HS.out.hr; exact ⟨a, cap, he⟩
      have HBW : Hid (Below W8.heap.size W8 wc) := HS.out.bw
      have HQ : Hid (∀ g0, (Value.slice qa (viewOf c.n x (T.take k)).length qc).ownBlock = some g0 → g0 < W8.heap.size) := fun g0 h => (owns_block_of HO8.out.row h).2.1
      generalize viewOf c.n x (T.take k) = vl at *
      have hvk : vl.length ≤ 300 := by have := HLT.out; have := hvl.out; omega
      have xc := cell_on (HB8.out.trans (HBW.out.mono HB8.out.size)) X0.out
      replace y0 := cell_on HBW.out y0
      replace y1 := cell_on HBW.out y1
      replace y2 := cell_on HBW.out y2
      replace y3 := cell_on HBW.out y3
      replace y4 := cell_on HBW.out y4
      replace y5 := cell_on HBW.out y5
      replace y6 := cell_on HBW.out y6
      replace y7 := cell_on HBW.out y7
      replace y9 := cell_on HBW.out y9
      have hgl : b10 ≠ g := by have := HS.out.lo; omega
      clear y8 y10 hvl hlg lb10
      by_cases h0 : 0 ≤ tw
      · obtain ⟨wn, rfl⟩ := Int.eq_ofNat_of_zero_le h0
        by_cases h1 : (wn : Int) < (c.n : Int)
        · have hw4 : wn < 8 := by omega
          have CIN := Lib.hid (fun X => cIn x wn (by omega) hw4 X)
          cases hin : inL x wn with
          | false =>
            rw [hin] at CIN
            have hmine : mine c.n x ⟨tc, (wn : Int), ⟨kc, ki, kf, kh, ku⟩, tv, ts, tf, tr⟩ = false := by unfold mine; unfold inL at hin; simp [hin]
            have HMN := Lib.hid hmine
            clear hin hmine
            go_upto_region 12 with ((go_at_call 38; refine (CIN.out _).mono ?_; rintro e w' ⟨rfl, rfl⟩))
            have hmine := HMN.out
            obtain ⟨⟨u0, u1, u2, u3, u4, u5, u6, u7, u8', u9', u10'⟩, -⟩ := eleven_at HS.out.hb
            have HO9 := Lib.hid (HO8.out.on (show Below W8.heap.size W8 wc from HBW.out) (fun b h => absurd rfl h))
            have HROW := Lib.hid (own_base HO9.out.row)
            have HTA : Hid (TldAt wc own0 ⟨0, (wn : Int), ⟨0, 0, 0, 0, 0⟩, 0, ts, [], tr⟩ (.slice sa' ts.length sc') (.slice none 0 0) (.slice ra' tr.length rc')) := ⟨HS.out.hs, nil0_has _ 1, HS.out.hr, fr0 (HS.out.si.mono fun b h => h.2.2), nil0_in _, fr0 (HS.out.ri.mono fun b h => h.2.2)⟩
            have HF9 : Hid (∀ g0, (Value.slice qa vl.length qc).ownBlock = some g0 → Off3 g0 (.slice sa' ts.length sc') (.slice none 0 0) (.slice ra' tr.length rc')) := fun g0 hg0 => ⟨HS.out.si.mono fun b h => by have := h.1; have := HQ.out g0 hg0; omega, nil0_in _, HS.out.ri.mono fun b h => by have := h.1; have := HQ.out g0 hg0; omega⟩
            have hB9 : w2.heap.size ≤ wc.heap.size := Nat.le_trans HB8.out.size HBW.out.size
            clear y0 y1 y2 y3 y4 y5 y6 y7 y9 CI xc hmine
            go_wp2_with (first | fail | (at_builtin; refine wp_appF (w0 := wc) 51 57 11 136 _ elTold Tryz.underlying51 (.slice qa vl.length qc) vl.length (tldsC vl sv' fv' rv') HROW.out (by repeat (first | exact Below.refl _ _ | refine Below.drew ?_ | refine Below.alloc ?_ (by first | (simp; done) | (simp; omega)) _ | refine Below.setCell ?_ (by first | (simp; done) | (simp; omega)) _)) _ 1 [.int .i64 0, .int .i64 (wn : Int), .int .i64 0, .int .i64 0, .int .i64 0, .int .i64 0, .int .i64 0, .int .i64 0, .slice sa' ts.length sc', .slice none 0 0, .slice ra' tr.length rc'] (has_block (wp := wc) (by first | exact heap_alloc_new _ _ | (simp only [heap_drew, heap_drewN]; exact heap_alloc_new _ _)) rfl (by rfl) (by decide)) rfl _ _ rfl rfl rfl (by simp [Value.oneCell']) (by omega) (by unfold maxLen; omega) ?_; intro v6 w6 hown6 hat6 hgrow6; obtain ⟨a6, c6, rfl⟩ := owns_slice hown6))
            have HO6 := Lib.hid (HO9.out.snoc (fun b h => absurd rfl h) hB9 ⟨0, (wn : Int), ⟨0, 0, 0, 0, 0⟩, 0, ts, [], tr⟩ HTA.out HF9.out hown6 hat6 hgrow6)
            have HB6 : Hid (Below w2.heap.size w2 w6) := below_grown9 (HB8.out.trans (Below.mono HBW.out HB8.out.size)) (Nat.le_refl _) hgrow6 (fun g0 hg0 => (owns_block_of HO9.out.row hg0).1)
            clear hown6 hat6 hgrow6
            go_roundw
            case rel =>
              have hse : seenT c.n x ⟨tc, (wn : Int), ⟨kc, ki, kf, kh, ku⟩, tv, ts, tf, tr⟩ = ⟨0, (wn : Int), ⟨0, 0, 0, 0, 0⟩, 0, ts, [], tr⟩ := by unfold seenT; rw [HMN.out]; rfl
              have HO7 := HO6.out
              rw [← hse, ← hsn.out] at HO7
              exact ⟨k + 1, _, _, _, HLT.out, by go_num, HB6, HO7⟩
            case measure => have := HLT.out; first | (simp [intOf]; done) | (simp [intOf]; omega)
          | true =>
            rw [hin] at CIN
            have hmine : mine c.n x ⟨tc, (wn : Int), ⟨kc, ki, kf, kh, ku⟩, tv, ts, tf, tr⟩ = true := by unfold mine; unfold inL at hin; simp [hin]; omega
            have HMN := Lib.hid hmine
            have CF : Hid (∀ Y : World, Below wc.heap.size wc Y → _) := fun Y hY => cclone_u8 (.slice fa tf.length fc) tf.length (u8s tf) Y ((HRD8.out.f.below HBW.out).below hY) (u8s_all _) (by omega)
            clear hin hmine CI
            go_upto_region 11 with ((go_at_call 38; refine (CIN.out _).mono ?_; rintro e w' ⟨rfl, rfl⟩))
            go_region_held3 (fun Z => Z.cell? ⟨b10, 0, none⟩ = some (.int .i64 tc) ∧ Z.cell? ⟨b10, 2, none⟩ = some (.int .i64 kc) ∧ Z.cell? ⟨b10, 3, none⟩ = some (.int .i64 ki) ∧ Z.cell? ⟨b10, 4, none⟩ = some (.int .i64 kf) ∧ Z.cell? ⟨b10, 5, none⟩ = some (.int .i64 kh) ∧ Z.cell? ⟨b10, 6, none⟩ = some (.int .i64 ku) ∧ Z.cell? ⟨b10, 7, none⟩ = some (.int .i64 tv) ∧ Z.cell? ⟨b10, 9, none⟩ = some (.slice fa tf.length fc))
              (first | with_reducible exact ⟨j0, j2, j3, j4, j5, j6, j7, j9⟩ | (refine ⟨?_, ?_, ?_, ?_, ?_, ?_, ?_, ?_⟩ <;> (repeat (first | (with_reducible assumption) | (with_reducible refine far1 hgl ?_))) <;> done) | go_keep)
              ((go_at_call 39; refine (CF.out _ (Below.drew (Below.refl wc.heap.size wc))).mono ?_; rintro e w5 ⟨f', rfl, hown5, hb5'⟩; obtain ⟨fa', fc', rfl⟩ := owns_slice hown5; have hb5 : Below wc.heap.size wc w5 := Below.trans (Below.drew (Below.refl wc.heap.size wc)) hb5'; have j0 := cell_on hb5 y0; have j2 := cell_on hb5 y2; have j3 := cell_on hb5 y3; have j4 := cell_on hb5 y4; have j5 := cell_on hb5 y5; have j6 := cell_on hb5 y6; have j7 := cell_on hb5 y7; have j9 := cell_on hb5 y9; have HZ5 : Hid (w5.heap[g]? = some (.cells #[.int .i64 0, .int .i64 (wn : Int), .int .i64 0, .int .i64 0, .int .i64 0, .int .i64 0, .int .i64 0, .int .i64 0, .slice sa' ts.length sc', .slice none 0 0, .slice ra' tr.length rc'] 57 (0, 0))) := (by rw [hb5.block _ (Array.getElem?_eq_some_iff.1 HS.out.hb).1]; exact HS.out.hb); obtain ⟨⟨g0, g1, g2, g3, g4, g5, g6, g7, g8, g9, g10⟩, gf⟩ := eleven_at HZ5.out; have gf0 := gf 0; have gf2 := gf 2; have gf3 := gf 3; have gf4 := gf 4; have gf5 := gf 5; have gf6 := gf 6; have gf7 := gf 7; have gf9 := gf 9; clear gf; have H1 := Lib.hid (HS.out.full hb5 (Has.of_owns hown5) (InF_owns2 hown5) (.int .i64 tc) (.int .i64 kc) (.int .i64 ki) (.int .i64 kf) (.int .i64 kh) (.int .i64 ku) (.int .i64 tv) (.slice fa' tf.length fc')); clear hown5 hb5 hb5'))
            go_upto_region 12 with (fail)
            clear j0 j2 j3 j4 j5 j6 j7 j9 g0 g1 g2 g3 g4 g5 g6 g7 g8 g9 g10 gf0 gf2 gf3 gf4 gf5 gf6 gf7 gf9 HZ5 y0 y1 y2 y3 y4 y5 y6 y7 y9 xc
            generalize ((((((((w5.setCell ⟨g, 0, none⟩ (.int .i64 tc)).setCell ⟨g, 2, none⟩ (.int .i64 kc)).setCell ⟨g, 3, none⟩ (.int .i64 ki)).setCell ⟨g, 4, none⟩ (.int .i64 kf)).setCell ⟨g, 5, none⟩ (.int .i64 kh)).setCell ⟨g, 6, none⟩ (.int .i64 ku)).setCell ⟨g, 7, none⟩ (.int .i64 tv)).setCell ⟨g, 9, none⟩ (.slice fa' tf.length fc')) = W9 at *
            have hmine := HMN.out
            obtain ⟨⟨u0, u1, u2, u3, u4, u5, u6, u7, u8', u9', u10'⟩, -⟩ := eleven_at H1.out.hb
            have HO9 := Lib.hid (HO8.out.on (show Below W8.heap.size W8 W9 from H1.out.bw) (fun b h => absurd rfl h))
            have HROW := Lib.hid (own_base HO9.out.row)
            have HTA : Hid (TldAt W9 own0 ⟨tc, (wn : Int), ⟨kc, ki, kf, kh, ku⟩, tv, ts, tf, tr⟩ (.slice sa' ts.length sc') (.slice fa' tf.length fc') (.slice ra' tr.length rc')) := ⟨H1.out.hs, H1.out.hf, H1.out.hr, fr0 (H1.out.si.mono fun b h => h.2), fr0 (H1.out.fi.mono fun b h => h.2), fr0 (H1.out.ri.mono fun b h => h.2)⟩
            have HF9 : Hid (∀ g0, (Value.slice qa vl.length qc).ownBlock = some g0 → Off3 g0 (.slice sa' ts.length sc') (.slice fa' tf.length fc') (.slice ra' tr.length rc')) := fun g0 hg0 => ⟨H1.out.si.mono fun b h => by have := h.1; have := HQ.out g0 hg0; omega, H1.out.fi.mono fun b h => by have := h.1; have := HQ.out g0 hg0; omega, H1.out.ri.mono fun b h => by have := h.1; have := HQ.out g0 hg0; omega⟩
            have hB9 : w2.heap.size ≤ W9.heap.size := Nat.le_trans HB8.out.size H1.out.bw.size
            clear hmine
            go_wp2_with (first | fail | (at_builtin; refine wp_appF (w0 := W9) 51 57 11 136 _ elTold Tryz.underlying51 (.slice qa vl.length qc) vl.length (tldsC vl sv' fv' rv') HROW.out (by repeat (first | exact Below.refl _ _ | refine Below.drew ?_ | refine Below.alloc ?_ (by first | (simp; done) | (simp; omega)) _ | refine Below.setCell ?_ (by first | (simp; done) | (simp; omega)) _)) _ 1 [.int .i64 tc, .int .i64 (wn : Int), .int .i64 kc, .int .i64 ki, .int .i64 kf, .int .i64 kh, .int .i64 ku, .int .i64 tv, .slice sa' ts.length sc', .slice fa' tf.length fc', .slice ra' tr.length rc'] (has_block (wp := W9) (by first | exact heap_alloc_new _ _ | (simp only [heap_drew, heap_drewN]; exact heap_alloc_new _ _)) rfl (by rfl) (by decide)) rfl _ _ rfl rfl rfl (by simp [Value.oneCell']) (by omega) (by unfold maxLen; omega) ?_; intro v6 w6 hown6 hat6 hgrow6; obtain ⟨a6, c6, rfl⟩ := owns_slice hown6))
            have HO6 := Lib.hid (HO9.out.snoc (fun b h => absurd rfl h) hB9 ⟨tc, (wn : Int), ⟨kc, ki, kf, kh, ku⟩, tv, ts, tf, tr⟩ HTA.out HF9.out hown6 hat6 hgrow6)
            have HB6 : Hid (Below w2.heap.size w2 w6) := below_grown9 (HB8.out.trans (Below.mono H1.out.bw HB8.out.size)) (Nat.le_refl _) hgrow6 (fun g0 hg0 => (owns_block_of HO9.out.row hg0).1)
            clear hown6 hat6 hgrow6
            go_roundw
            case rel =>
              have hse : seenT c.n x ⟨tc, (wn : Int), ⟨kc, ki, kf, kh, ku⟩, tv, ts, tf, tr⟩ = ⟨tc, (wn : Int), ⟨kc, ki, kf, kh, ku⟩, tv, ts, tf, tr⟩ := by unfold seenT; rw [HMN.out]; rfl
              have HO7 := HO6.out
              rw [← hse, ← hsn.out] at HO7
              exact ⟨k + 1, _, _, _, HLT.out, by go_num, HB6, HO7⟩
            case measure => have := HLT.out; first | (simp [intOf]; done) | (simp [intOf]; omega)
        · have hmine : mine c.n x ⟨tc, (wn : Int), ⟨kc, ki, kf, kh, ku⟩, tv, ts, tf, tr⟩ = false := by unfold mine; simp; intro h; omega
          have HMN := Lib.hid hmine
          clear hmine
          go_upto_region 12 with (fail)
          have hmine := HMN.out
          obtain ⟨⟨u0, u1, u2, u3, u4, u5, u6, u7, u8', u9', u10'⟩, -⟩ := eleven_at HS.out.hb
          have HO9 := Lib.hid (HO8.out.on (show Below W8.heap.size W8 wc from HBW.out) (fun b h => absurd rfl h))
          have HROW := Lib.hid (own_base HO9.out.row)
          have HTA : Hid (TldAt wc own0 ⟨0, (wn : Int), ⟨0, 0, 0, 0, 0⟩, 0, ts, [], tr⟩ (.slice sa' ts.length sc') (.slice none 0 0) (.slice ra' tr.length rc')) := ⟨HS.out.hs, nil0_has _ 1, HS.out.hr, fr0 (HS.out.si.mono fun b h => h.2.2), nil0_in _, fr0 (HS.out.ri.mono fun b h => h.2.2)⟩
          have HF9 : Hid (∀ g0, (Value.slice qa vl.length qc).ownBlock = some g0 → Off3 g0 (.slice sa' ts.length sc') (.slice none 0 0) (.slice ra' tr.length rc')) := fun g0 hg0 => ⟨HS.out.si.mono fun b h => by have := h.1; have := HQ.out g0 hg0; omega, nil0_in _, HS.out.ri.mono fun b h => by have := h.1; have := HQ.out g0 hg0; omega⟩
          have hB9 : w2.heap.size ≤ wc.heap.size := Nat.le_trans HB8.out.size HBW.out.size
          clear y0 y1 y2 y3 y4 y5 y6 y7 y9 CI xc hmine
          go_wp2_with (first | fail | (at_builtin; refine wp_appF (w0 := wc) 51 57 11 136 _ elTold Tryz.underlying51 (.slice qa vl.length qc) vl.length (tldsC vl sv' fv' rv') HROW.out (by repeat (first | exact Below.refl _ _ | refine Below.drew ?_ | refine Below.alloc ?_ (by first | (simp; done) | (simp; omega)) _ | refine Below.setCell ?_ (by first | (simp; done) | (simp; omega)) _)) _ 1 [.int .i64 0, .int .i64 (wn : Int), .int .i64 0, .int .i64 0, .int .i64 0, .int .i64 0, .int .i64 0, .int .i64 0, .slice sa' ts.length sc', .slice none 0 0, .slice ra' tr.length rc'] (has_block (wp := wc) (by first | exact heap_alloc_new _ _ | (simp only [heap_drew, heap_drewN]; exact heap_alloc_new _ _)) rfl (by rfl) (by decide)) rfl _ _ rfl rfl rfl (by simp [Value.oneCell']) (by omega) (by unfold maxLen; omega) ?_; intro v6 w6 hown6 hat6 hgrow6; obtain ⟨a6, c6, rfl⟩ := owns_slice hown6))
          have HO6 := Lib.hid (HO9.out.snoc (fun b h => absurd rfl h) hB9 ⟨0, (wn : Int), ⟨0, 0, 0, 0, 0⟩, 0, ts, [], tr⟩ HTA.out HF9.out hown6 hat6 hgrow6)
          have HB6 : Hid (Below w2.heap.size w2 w6) := below_grown9 (HB8.out.trans (Below.mono HBW.out HB8.out.size)) (Nat.le_refl _) hgrow6 (fun g0 hg0 => (owns_block_of HO9.out.row hg0).1)
          clear hown6 hat6 hgrow6
          go_roundw
          case rel =>
            have hse : seenT c.n x ⟨tc, (wn : Int), ⟨kc, ki, kf, kh, ku⟩, tv, ts, tf, tr⟩ = ⟨0, (wn : Int), ⟨0, 0, 0, 0, 0⟩, 0, ts, [], tr⟩ := by unfold seenT; rw [HMN.out]; rfl
            have HO7 := HO6.out
            rw [← hse, ← hsn.out] at HO7
            exact ⟨k + 1, _, _, _, HLT.out, by go_num, HB6, HO7⟩
          case measure => have := HLT.out; first | (simp [intOf]; done) | (simp [intOf]; omega)
      · have hmine : mine c.n x ⟨tc, tw, ⟨kc, ki, kf, kh, ku⟩, tv, ts, tf, tr⟩ = false := by unfold mine; simp; intro h; omega
        have HMN := Lib.hid hmine
        clear hmine
        go_upto_region 12 with (fail)
        have hmine := HMN.out
        obtain ⟨⟨u0, u1, u2, u3, u4, u5, u6, u7, u8', u9', u10'⟩, -⟩ := eleven_at HS.out.hb
        have HO9 := Lib.hid (HO8.out.on (show Below W8.heap.size W8 wc from HBW.out) (fun b h => absurd rfl h))
        have HROW := Lib.hid (own_base HO9.out.row)
        have HTA : Hid (TldAt wc own0 ⟨0, tw, ⟨0, 0, 0, 0, 0⟩, 0, ts, [], tr⟩ (.slice sa' ts.length sc') (.slice none 0 0) (.slice ra' tr.length rc')) := ⟨HS.out.hs, nil0_has _ 1, HS.out.hr, fr0 (HS.out.si.mono fun b h => h.2.2), nil0_in _, fr0 (HS.out.ri.mono fun b h => h.2.2)⟩
        have HF9 : Hid (∀ g0, (Value.slice qa vl.length qc).ownBlock = some g0 → Off3 g0 (.slice sa' ts.length sc') (.slice none 0 0) (.slice ra' tr.length rc')) := fun g0 hg0 => ⟨HS.out.si.mono fun b h => by have := h.1; have := HQ.out g0 hg0; omega, nil0_in _, HS.out.ri.mono fun b h => by have := h.1; have := HQ.out g0 hg0; omega⟩
        have hB9 : w2.heap.size ≤ wc.heap.size := Nat.le_trans HB8.out.size HBW.out.size
        clear y0 y1 y2 y3 y4 y5 y6 y7 y9 CI xc hmine
        go_wp2_with (first | fail | (at_builtin; refine wp_appF (w0 := wc) 51 57 11 136 _ elTold Tryz.underlying51 (.slice qa vl.length qc) vl.length (tldsC vl sv' fv' rv') HROW.out (by repeat (first | exact Below.refl _ _ | refine Below.drew ?_ | refine Below.alloc ?_ (by first | (simp; done) | (simp; omega)) _ | refine Below.setCell ?_ (by first | (simp; done) | (simp; omega)) _)) _ 1 [.int .i64 0, .int .i64 tw, .int .i64 0, .int .i64 0, .int .i64 0, .int .i64 0, .int .i64 0, .int .i64 0, .slice sa' ts.length sc', .slice none 0 0, .slice ra' tr.length rc'] (has_block (wp := wc) (by first | exact heap_alloc_new _ _ | (simp only [heap_drew, heap_drewN]; exact heap_alloc_new _ _)) rfl (by rfl) (by decide)) rfl _ _ rfl rfl rfl (by simp [Value.oneCell']) (by omega) (by unfold maxLen; omega) ?_; intro v6 w6 hown6 hat6 hgrow6; obtain ⟨a6, c6, rfl⟩ := owns_slice hown6))
        have HO6 := Lib.hid (HO9.out.snoc (fun b h => absurd rfl h) hB9 ⟨0, tw, ⟨0, 0, 0, 0, 0⟩, 0, ts, [], tr⟩ HTA.out HF9.out hown6 hat6 hgrow6)
        have HB6 : Hid (Below w2.heap.size w2 w6) := below_grown9 (HB8.out.trans (Below.mono HBW.out HB8.out.size)) (Nat.le_refl _) hgrow6 (fun g0 hg0 => (owns_block_of HO9.out.row hg0).1)
        clear hown6 hat6 hgrow6
        go_roundw
        case rel =>
          have hse : seenT c.n x ⟨tc, tw, ⟨kc, ki, kf, kh, ku⟩, tv, ts, tf, tr⟩ = ⟨0, tw, ⟨0, 0, 0, 0, 0⟩, 0, ts, [], tr⟩ := by unfold seenT; rw [HMN.out]; rfl
          have HO7 := HO6.out
          rw [← hse, ← hsn.out] at HO7
          exact ⟨k + 1, _, _, _, HLT.out, by go_num, HB6, HO7⟩
        case measure => have := HLT.out; first | (simp [intOf]; done) | (simp [intOf]; omega)
    · obtain rfl : k = T.length := by omega
      have hT2 : T.take T.length = T := List.take_of_length_le (Nat.le_refl _)
      rw [hT2] at HO
      go_wp2_with fail
      go_ret2
      exact ⟨_, sv', fv', rv', rfl, HO.out.tlds, HB2.out.trans (HB.out.mono HB2.out.size)⟩
end Go.Proofs.YtjdedflfdlhkdaaGreatDoor
