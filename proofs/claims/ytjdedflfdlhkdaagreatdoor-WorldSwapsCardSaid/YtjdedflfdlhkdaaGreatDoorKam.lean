/- Texts that the claim imports, laid together: WGone WDelA FrmM FrmH WDelB WEntA. No statement of their own. -/
import Derived.Test.YtjdedflfdlhkdaaGreatDoorKag
import Derived.Test.YtjdedflfdlhkdaaGreatDoorKah
import Derived.Test.YtjdedflfdlhkdaaGreatDoorKal
namespace Go.Proofs.YtjdedflfdlhkdaaGreatDoor
open Go.ChangeShapes Go.WideShapes Go.ChangeAt Go.RowKit
set_option linter.unusedVariables false
set_option linter.unusedSimpArgs false

/-- From w the world has come to w'. -/
structure Gone (w : World) (own : Own) (w' : World) (c : Cfg) (X : Adr) (own' : Own) (N : Nat) (s : Wld) : Prop where
  at' : WAt w' c X own' N s
  go : Went own own' w w'
  il : InF (fun g => g < w.heap.size) X.vl
  im : InF (fun g => g < w.heap.size) X.vm
  i0 : 0 < w.heap.size
section
variable {w w1 w2 : World} {own own1 own2 : Own} {c : Cfg} {X : Adr} {N M : Nat} {s s2 : Wld}
theorem Gone.start (h : WAt w c X own N s) : Gone w own w c X own N s := ⟨h, Went.of_below (Below.refl _ _) h.lt, h.fix.il.mono fun _ hb => hb.2, h.fix.im.mono fun _ hb => hb.2, h.fix.io.2⟩
theorem Gone.on (g : Gone w own w1 c X own1 N s) (hb : Below w1.heap.size w1 w2) : Gone w own w2 c X own1 N s :=
  ⟨g.at'.on hb, g.go.trans (Went.of_below hb g.at'.lt), g.il, g.im, g.i0⟩
theorem Gone.step (g : Gone w own w1 c X own1 N s) (h : WAt w2 c X own2 M s2) (k : Went own1 own2 w1 w2) : Gone w own w2 c X own2 M s2 :=
  ⟨h, g.go.trans k, g.il, g.im, g.i0⟩
/-- A block of the call's own is written. -/
theorem Gone.set (g : Gone w own w1 c X own1 N s) {b : Nat} (hb : w.heap.size ≤ b) (ho : own1 b = none) (j : Nat) (u : Value) : Gone w own (w1.setCell ⟨b, j, none⟩ u) c X own1 N s := by
  have e : (w1.setCell ⟨b, j, none⟩ u).heap.size = w1.heap.size := by simp [World.setCell]
  refine ⟨g.at'.setFree ho (fun v hv => ?_) (by have := g.i0; omega) j u, ⟨?_, g.go.same, fun x hx hn => by rw [e]; exact g.go.new x hx hn⟩, g.il, g.im, g.i0⟩
  · rcases hv with rfl | rfl
    · exact g.il.mono fun x hx => by omega
    · exact g.im.mono fun x hx => by omega
  · have q := g.go.wr
    exact ⟨q.os, q.tape, q.output, by rw [e]; exact q.size, fun x hx hf => by rw [Below.heap_setCell _ _ _ _ (by simp only; omega)]; exact q.block x hx hf⟩
theorem Gone.set11 (g : Gone w own w1 c X own1 N s) {b : Nat} (hb : w.heap.size ≤ b) (ho : own1 b = none) (x0 x1 x2 x3 x4 x5 x6 x7 x8 x9 x10 : Value) : Gone w own (put11 w1 b x0 x1 x2 x3 x4 x5 x6 x7 x8 x9 x10) c X own1 N s := by
  unfold put11
  exact ((((((((((g.set hb ho _ _).set hb ho _ _).set hb ho _ _).set hb ho _ _).set hb ho _ _).set hb ho _ _).set hb ho _ _).set hb ho _ _).set hb ho _ _).set hb ho _ _).set hb ho _ _
/-- A new block is nobody's. -/
theorem Gone.none (g : Gone w own w1 c X own1 N s) {b : Nat} (hb : w1.heap.size ≤ b) : own1 b = none := by
  cases h : own1 b with
  | none => rfl
  | some t => exact absurd (g.at'.lt b (by rw [h]; simp)) (by omega)
end
/-- A block that is nobody's, and what it holds. -/
structure Mine (own : Own) (w : World) (b : Nat) (o : Obj) : Prop where
  ho : own b = none
  hb : w.heap[b]? = some o
section
variable {w w' : World} {own own' : Own} {b : Nat} {o : Obj}
theorem Mine.lt (h : Mine own w b o) : b < w.heap.size := (Array.getElem?_eq_some_iff.1 h.hb).1
theorem Mine.on (h : Mine own w b o) (hb : Below w.heap.size w w') : Mine own w' b o := ⟨h.ho, by rw [hb.block _ h.lt]; exact h.hb⟩
theorem Mine.went (h : Mine own w b o) (hu : Went own own' w w') : Mine own' w' b o := ⟨(hu.free h.lt h.ho).2, by rw [(hu.free h.lt h.ho).1]; exact h.hb⟩
theorem Mine.other (h : Mine own w b o) {p : Addr} (hp : b ≠ p.block) (u : Value) : Mine own (w.setCell p u) b o := ⟨h.ho, by rw [Below.heap_setCell _ _ _ _ hp]; exact h.hb⟩
theorem Mine.set {cs : Array Value} {e : TypeId} {r : Nat × Nat} (h : Mine own w b (.cells cs e (0, 0))) (j : Nat) (u : Value) : Mine own (w.setCell ⟨b, j, none⟩ u) b (.cells (cs.setIfInBounds j u) e (0, 0)) := ⟨h.ho, heap_setCell_same _ _ _ _ _ _ h.hb⟩
theorem Mine.other11 (h : Mine own w b o) {S : Nat} (hp : b ≠ S) (x0 x1 x2 x3 x4 x5 x6 x7 x8 x9 x10 : Value) : Mine own (put11 w S x0 x1 x2 x3 x4 x5 x6 x7 x8 x9 x10) b o := by
  unfold put11
  exact ((((((((((h.other hp _).other hp _).other hp _).other hp _).other hp _).other hp _).other hp _).other hp _).other hp _).other hp _).other hp _
theorem Mine.put11 {a0 a1 a2 a3 a4 a5 a6 a7 a8 a9 a10 : Value} {e : TypeId} (h : Mine own w b (.cells #[a0, a1, a2, a3, a4, a5, a6, a7, a8, a9, a10] e (0, 0))) (x0 x1 x2 x3 x4 x5 x6 x7 x8 x9 x10 : Value) :
    Mine own (Go.Proofs.YtjdedflfdlhkdaaGreatDoor.put11 w b x0 x1 x2 x3 x4 x5 x6 x7 x8 x9 x10) b (.cells #[x0, x1, x2, x3, x4, x5, x6, x7, x8, x9, x10] e (0, 0)) := ⟨h.ho, put11_at h.hb _ _ _ _ _ _ _ _ _ _ _⟩
end
/-- Envelopes. -/
def Env.cells (e : Env) : List Value := [.int .i64 e.id, .int .i64 e.f, .int .i64 e.t, .int .i64 e.size]
theorem Env.cells_length (e : Env) : e.cells.length = 4 := rfl
def envC (l : List Env) : List Value := l.flatMap Env.cells
/-- What is told, in memory. -/
structure TldAt (w : World) (own : Own) (t : Tld) (sv fv rv : Value) : Prop where
  s : Has w 4 sv t.sent.length (envC t.sent)
  f : Has w 1 fv t.frame.length (u8s t.frame)
  r : Has w 1 rv t.report.length (ints t.report)
  si : InF (Fr own w) sv
  fi : InF (Fr own w) fv
  ri : InF (Fr own w) rv
theorem nil0_has (w : World) (sz : Nat) : Has w sz nil0 0 [] := ⟨⟨by simp, fun n cap h => by simp only [nil0, Value.slice.injEq] at h; exact ⟨h.2.1.symm, h.2.2.symm⟩⟩, none, 0, rfl, Nat.le_refl _, Nat.zero_le _, fun h => by simp at h⟩
theorem nil0_in (F : Nat → Prop) : InF F nil0 := fun b off n c h => by simp [nil0] at h
theorem TldAt.none (w : World) (own : Own) (t : Tld) (h1 : t.sent = []) (h2 : t.frame = []) (h3 : t.report = []) : TldAt w own t nil0 nil0 nil0 :=
  ⟨by rw [h1]; exact nil0_has w 4, by rw [h2]; exact nil0_has w 1, by rw [h3]; exact nil0_has w 1, nil0_in _, nil0_in _, nil0_in _⟩
theorem TldAt.went {w w' : World} {own own' : Own} {t : Tld} {sv fv rv : Value} (h : TldAt w own t sv fv rv) (hu : Went own own' w w') : TldAt w' own' t sv fv rv :=
  ⟨h.s.upd h.si hu, h.f.upd h.fi hu, h.r.upd h.ri hu, h.si.upd hu, h.fi.upd hu, h.ri.upd hu⟩
def Tld.val (t : Tld) (sv fv rv : Value) : Value := .agg (tldC t.code t.who t.stk t.value sv fv rv).toArray
/-- What is told lies behind a point. -/
def Far (w : World) (sv fv rv : Value) : Prop := InF (fun b => w.heap.size ≤ b) sv ∧ InF (fun b => w.heap.size ≤ b) fv ∧ InF (fun b => w.heap.size ≤ b) rv
theorem far0 (w : World) : Far w nil0 nil0 nil0 := ⟨nil0_in _, nil0_in _, nil0_in _⟩
theorem farF {w : World} {fv : Value} (h : InF (fun b => w.heap.size < b) fv) : Far w nil0 fv nil0 := ⟨nil0_in _, h.mono fun _ hb => Nat.le_of_lt hb, nil0_in _⟩
/-- What a step comes to, in memory. -/
def Stepped (w : World) (c : Cfg) (X : Adr) (own : Own) (N : Nat) (r : Tld × Wld) (e : Ending) (w' : World) : Prop :=
  ∃ own' sv fv rv, e = .returned (r.1.val sv fv rv) ∧ TldAt w' own' r.1 sv fv rv ∧ WAt w' c X own' N r.2 ∧ Went own own' w w' ∧ Far w sv fv rv
theorem Has.slice {w : World} {sz n : Nat} {v : Value} {xs : List Value} (h : Has w sz v n xs) : ∃ a c, v = .slice a n c := by
  obtain ⟨_, a, c, he, _⟩ := h
  exact ⟨a, c, he⟩
/-- What was told by a call that was made behind the start. -/
theorem Stepped.got {w : World} {c : Cfg} {X : Adr} {own : Own} {N : Nat} {r : Tld × Wld} {e : Ending} {w' : World} (h : Stepped w c X own N r e w') :
    ∃ own' sa sc fa fc ra rc, e = .returned (.agg #[.int .i64 r.1.code, .int .i64 r.1.who, .int .i64 r.1.stk.code, .int .i64 r.1.stk.id, .int .i64 r.1.stk.free, .int .i64 r.1.stk.held, .int .i64 r.1.stk.used, .int .i64 r.1.value, .slice sa r.1.sent.length sc, .slice fa r.1.frame.length fc, .slice ra r.1.report.length rc]) ∧
      (TldAt w' own' r.1 (.slice sa r.1.sent.length sc) (.slice fa r.1.frame.length fc) (.slice ra r.1.report.length rc) ∧ Far w (.slice sa r.1.sent.length sc) (.slice fa r.1.frame.length fc) (.slice ra r.1.report.length rc)) ∧ WAt w' c X own' N r.2 ∧ Went own own' w w' := by
  obtain ⟨own', sv, fv, rv, he, ht, hw, hu, hf⟩ := h
  obtain ⟨sa, sc, rfl⟩ := ht.s.slice
  obtain ⟨fa, fc, rfl⟩ := ht.f.slice
  obtain ⟨ra, rc, rfl⟩ := ht.r.slice
  exact ⟨own', sa, sc, fa, fc, ra, rc, he, ⟨ht, hf⟩, hw, hu⟩
/-- The eleven cells of a block of the call's own are written; what is told lies elsewhere. -/
theorem tldAt_put {w0 w1 : World} {own : Own} {t : Tld} {sv fv rv : Value} {P : Nat} (h : TldAt w1 own t sv fv rv) (hf : Far w0 sv fv rv) (hP : P < w0.heap.size) (x0 x1 x2 x3 x4 x5 x6 x7 x8 x9 x10 : Value) : TldAt (put11 w1 P x0 x1 x2 x3 x4 x5 x6 x7 x8 x9 x10) own t sv fv rv := by
  have hk : ∀ b, b < w1.heap.size → w0.heap.size ≤ b → (put11 w1 P x0 x1 x2 x3 x4 x5 x6 x7 x8 x9 x10).heap[b]? = w1.heap[b]? := fun b _ hb => by
    have hne : b ≠ P := by omega
    unfold Go.Proofs.YtjdedflfdlhkdaaGreatDoor.put11
    have e : ∀ (x : World) (j : Nat) (u : Value), (x.setCell ⟨P, j, none⟩ u).heap[b]? = x.heap[b]? := fun x j u => Below.heap_setCell _ _ _ _ (by exact hne)
    simp only [e]
  have hm : ∀ {v : Value}, InF (Fr own w1) v → InF (Fr own (put11 w1 P x0 x1 x2 x3 x4 x5 x6 x7 x8 x9 x10)) v := fun hi => hi.mono fun b hb => ⟨hb.1, by rw [put11_size]; exact hb.2⟩
  exact ⟨h.s.kept hf.1 hk, h.f.kept hf.2.1 hk, h.r.kept hf.2.2 hk, hm h.si, hm h.fi, hm h.ri⟩
theorem Far.mono {w w0 : World} {sv fv rv : Value} (h : Far w0 sv fv rv) (hs : w.heap.size ≤ w0.heap.size) : Far w sv fv rv :=
  ⟨h.1.mono fun _ hb => Nat.le_trans hs hb, h.2.1.mono fun _ hb => Nat.le_trans hs hb, h.2.2.mono fun _ hb => Nat.le_trans hs hb⟩
end Go.Proofs.YtjdedflfdlhkdaaGreatDoor

namespace Go.Proofs.YtjdedflfdlhkdaaGreatDoor
open Go.ChangeShapes Go.WideShapes Go.ChangeAt Go.RowKit
set_option linter.unusedVariables false
set_option linter.unusedSimpArgs false

theorem told_new (w : World) : Below w.heap.size w (w.alloc (.cells #[.int .i64 0, .int .i64 0, .int .i64 0, .int .i64 0, .int .i64 0, .int .i64 0, .int .i64 0, .int .i64 0, .slice none 0 0, .slice none 0 0, .slice none 0 0] 57)) := (Below.refl _ _).alloc (Nat.le_refl _) _
set_option maxRecDepth 100000 in
set_option maxHeartbeats 4000000 in
theorem cDelNone {w : World} {c : Cfg} {X : Adr} {own : Own} {N : Nat} {s : Wld} (h : WAt w c X own N s) (id : Int) (hi : id < 0 ∨ (s.ls.length : Int) ≤ id) :
    Calls Tryz.prog 55 #[.pointer (some ⟨X.W, 0, none⟩), .int .i64 id] w (Stepped w c X own N (s.deliver c id)) := by
  have hd : s.deliver c id = (noT 6, s) := by
    unfold Wld.deliver
    rw [if_pos (by unfold Wld.due; rw [if_pos hi])]
  rw [hd]
  have hb := told_new w
  have hG := (Gone.start h).on hb
  have hM : Mine own _ w.heap.size _ := ⟨(Gone.start h).none (Nat.le_refl _), heap_alloc_new w (.cells #[.int .i64 0, .int .i64 0, .int .i64 0, .int .i64 0, .int .i64 0, .int .i64 0, .int .i64 0, .int .i64 0, .slice none 0 0, .slice none 0 0, .slice none 0 0] 57)⟩
  have G := Lib.hid hG
  have M := Lib.hid hM
  have CD := Lib.hid (cDueNone hG.at' id hi)
  clear hb hG hM h hi
  go_enter Tryz.func55, Tryz.ntmps55
  go_upto_region 1 with (fail)
  generalize (w.alloc (.cells #[.int .i64 0, .int .i64 0, .int .i64 0, .int .i64 0, .int .i64 0, .int .i64 0, .int .i64 0, .int .i64 0, .slice none 0 0, .slice none 0 0, .slice none 0 0] 57)) = W at *
  go_wp2_with (go_at_call 56; refine CD.out.mono ?_; rintro e w' ⟨rfl, rfl⟩)
  refine (cNo 6 _).mono ?_
  rintro e w2 ⟨rfl, hb2⟩
  unfold tldC stk0 nil0
  simp only
  have G2 := Lib.hid (G.out.on hb2)
  have M2 := Lib.hid (M.out.on hb2)
  clear hb2 G M CD
  obtain ⟨⟨y0, y1, y2, y3, y4, y5, y6, y7, y8, y9, y10⟩, yf⟩ := eleven_at M2.out.hb
  have yf0 := yf 0
  have yf1 := yf 1
  have yf2 := yf 2
  have yf3 := yf 3
  have yf4 := yf 4
  have yf5 := yf 5
  have yf6 := yf 6
  have yf7 := yf 7
  have yf8 := yf 8
  have yf9 := yf 9
  have yf10 := yf 10
  clear yf
  obtain ⟨W6, hW6⟩ : ∃ xx, xx = put11 w2 w.heap.size (.int .i64 6) (.int .i64 0) (.int .i64 0) (.int .i64 0) (.int .i64 0) (.int .i64 0) (.int .i64 0) (.int .i64 0) (.slice none 0 0) (.slice none 0 0) (.slice none 0 0) := ⟨_, rfl⟩
  have h6 := (M2.out).put11 (.int .i64 6) (.int .i64 0) (.int .i64 0) (.int .i64 0) (.int .i64 0) (.int .i64 0) (.int .i64 0) (.int .i64 0) (.slice none 0 0) (.slice none 0 0) (.slice none 0 0)
  have hG6 := (G2.out).set11 (by first | omega | (simp; done) | (simp; omega)) (M2.out).ho (.int .i64 6) (.int .i64 0) (.int .i64 0) (.int .i64 0) (.int .i64 0) (.int .i64 0) (.int .i64 0) (.int .i64 0) (.slice none 0 0) (.slice none 0 0) (.slice none 0 0)
  rw [← hW6] at h6 hG6
  unfold put11 at hW6
  have HW6 := Lib.hid hW6
  have HG6 := Lib.hid hG6
  obtain ⟨⟨t0, t1, t2, t3, t4, t5, t6, t7, t8, t9, t10⟩, -⟩ := eleven_at h6.hb
  clear hW6 hG6 h6
  go_wp2_with fail
  rw [← HW6.out]
  refine bodyPost_ret (v := .agg #[.int .i64 6, .int .i64 0, .int .i64 0, .int .i64 0, .int .i64 0, .int .i64 0, .int .i64 0, .int .i64 0, .slice none 0 0, .slice none 0 0, .slice none 0 0]) (by simp [results, Tryz.results55, go_sem, t0, t1, t2, t3, t4, t5, t6, t7, t8, t9, t10]) rfl ?_
  exact ⟨own, nil0, nil0, nil0, rfl, TldAt.none _ _ _ rfl rfl rfl, HG6.out.at', HG6.out.go, far0 _⟩
end Go.Proofs.YtjdedflfdlhkdaaGreatDoor

namespace Go.Proofs.YtjdedflfdlhkdaaGreatDoor
open Go.ChangeShapes Go.WideShapes Go.ChangeAt Go.RowKit
set_option linter.unusedVariables false
set_option linter.unusedSimpArgs false

set_option maxRecDepth 100000 in
set_option maxHeartbeats 4000000 in
theorem cAsked {w : World} {c : Cfg} {vl vm : Value} (hc : c.Ok) (h : CfgAt w c vl vm) (v : Value) (l : List Int) (hv : Has w 1 v (recSize (askF l)) (u8s (recB (askF l)))) (hl : ∀ x ∈ l, 0 ≤ x ∧ x ≤ 1048576) (hlen : l.length = c.minted.length) :
    Calls Tryz.prog 69 #[.agg (c.cells vl vm), v] w fun e w' => ∃ v', e = .returned (.tuple #[v', .int .i64 0]) ∧ w'.ownsRow w.heap.size 3 1 v' l.length (ints l) ∧ Below w.heap.size w w' := by
  have hb := cfg_box w c vl vm
  obtain ⟨y0, y1, y2, x3, y4⟩ := cfg_at (heap_alloc_new w (.cells (c.cells vl vm) 25))
  have H := Lib.hid (h.on hb)
  have V := Lib.hid (hv.below hb)
  have Hb := Lib.hid hb
  have hi := hc.items
  have KM := Lib.hid (fun (X : World) (hX : CfgAt X c vl vm) => cFMay hc hX)
  have HL := Lib.hid hl
  have Hok := Lib.hid (askF_ok hl (by omega))
  obtain ⟨_, la, cl, rfl, hcl1, hcl2, _⟩ := h.hl
  obtain ⟨_, ma, cm, rfl, hcm1, hcm2, _⟩ := h.hm
  obtain ⟨_, va, cv, rfl, hv1, hv2, _⟩ := hv
  unfold maxLen at hcl2 hcm2 hv2
  rw [← hlen] at x3 hcm1 hi
  unfold Cfg.cells at x3 y0 y1 y2 y4 Hb H V hb KM ⊢
  rw [← hlen] at Hb H V hb KM y0 y1 y2 y4 ⊢
  have ef1 : (askF l).map (·.1) = List.replicate l.length 21 := by
    unfold askF; rw [List.map_map]
    exact List.map_eq_replicate_iff.2 fun x _ => rfl
  have ef2 : (askF l).map (·.2) = l := by unfold askF; rw [List.map_map]; exact List.map_id' l
  have EF1 := Lib.hid ef1
  have EF2 := Lib.hid ef2
  clear hb hc h hl ef1 ef2 hlen
  go_enter Tryz.func69, Tryz.ntmps69
  go_upto_region 1 with (fail)
  generalize (w.alloc (.cells #[.int .i64 c.n, .slice la c.labs.length cl, .int .i64 c.ticks, .slice ma l.length cm, .int .i64 c.cap] 25)) = W at *
  go_wp2_with fail
  refine (KM.out _ H.out).mono ?_
  rintro e w1 ⟨rfl, hb1⟩
  replace x3 := cell_on hb1 x3
  have V1 := Lib.hid (V.out.below hb1)
  have Hb1 := Lib.hid (Hb.out.trans (hb1.mono Hb.out.size))
  clear hb1 KM H V y0 y1 y2 y4
  have hWs := World.block_lt_of_cell? w1 _ x3
  have CR := Lib.hid (crepeatE (.slice (some ⟨w1.heap.size, 0, none⟩) 1 1) 21 l.length (w1.alloc (.cells #[.int .i64 21] 3)) (has_block (wp := w1) (cs := ints [21]) (heap_alloc_new _ _) rfl rfl (by decide)) (by omega))
  go_wp2_with fail
  have hbA : Below w1.heap.size w1 (w1.alloc (.cells #[.int .i64 21] 3)) := (Below.refl _ _).alloc (Nat.le_refl _) _
  refine CR.out.mono ?_
  rintro e w2 ⟨v2, rfl, hown2, hb2⟩
  obtain ⟨a2, c2, rfl⟩ := owns_slice hown2
  have hb12 := hbA.trans (hb2.mono hbA.size)
  have V2 := Lib.hid (V1.out.below hb12)
  have Hb2 := Lib.hid (Hb1.out.trans (hb12.mono Hb1.out.size))
  have hh2 := Has.of_owns hown2
  rw [← EF1.out] at hh2
  have CU := Lib.hid (cunpackF (.slice a2 l.length c2) _ (askF l) w2 Hok.out (by rw [askF_len]; exact hh2) V2.out)
  clear hown2 hb2 hbA hb12 hh2 V1 Hb1 x3 CR
  go_wp2_with fail
  refine CU.out.mono ?_
  rintro e w3 ⟨v3, rfl, hown3, hb3⟩
  rw [EF2.out, askF_len] at hown3
  obtain ⟨a3, c3, rfl⟩ := owns_slice hown3
  have CX := Lib.hid (cMax _ l w3 (Has.of_owns hown3) (by omega) HL.out)
  have Hb3 := Lib.hid (Hb2.out.trans (hb3.mono Hb2.out.size))
  have HO3 : Hid (w3.ownsRow w.heap.size 3 1 (.slice a3 l.length c3) l.length (ints l)) := owns_base hown3 Hb2.out.size
  clear hown3 hb3 CU V2 Hb2
  go_wp2_with fail
  refine CX.out.mono ?_
  rintro e w4 ⟨x, ⟨rfl, hx⟩, hb4⟩
  have hxd : decide (1048576 < x) = false := by simp; omega
  have Hfin : Hid (w4.ownsRow w.heap.size 3 1 (.slice a3 l.length c3) l.length (ints l) ∧ Below w.heap.size w w4) := ⟨owns_below HO3.out hb4, Hb3.out.trans (hb4.mono Hb3.out.size)⟩
  clear hb4 CX HO3 Hb3
  go_wp2_with fail
  go_ret2
  exact ⟨_, rfl, Hfin.out⟩
end Go.Proofs.YtjdedflfdlhkdaaGreatDoor

namespace Go.Proofs.YtjdedflfdlhkdaaGreatDoor
open Go.ChangeShapes Go.WideShapes Go.ChangeAt Go.RowKit
set_option linter.unusedVariables false
set_option linter.unusedSimpArgs false

theorem shr_eight {labs : List Nat} {f t : Nat} {l : Nat → List Ent} (h : ∀ j, j < labs.length → EightL (l j) ∧ ∀ e ∈ l j, e.v ≤ 255) : ∀ i ∈ shr labs f t labs.length, EightL (l i) := fun i hi => (h i ((shr_mem _ _ _ _ _).1 hi).1).1
set_option maxRecDepth 100000 in
set_option maxHeartbeats 8000000 in
theorem cHeard {w : World} {c : Cfg} {vl vm : Value} (hc : c.Ok) (h : CfgAt w c vl vm) (f t : Nat) (hf : f < c.n) (ht : t < c.n) (vb : Value) (l : Nat → List Ent) (hl : ∀ j, j < c.labs.length → EightL (l j) ∧ ∀ e ∈ l j, e.v ≤ 255) (hb : Has w 1 vb (recSize (rumF c.labs f t l)) (u8s (recB (rumF c.labs f t l)))) :
    Calls Tryz.prog 72 #[.agg (c.cells vl vm), .int .i64 f, .int .i64 t, vb] w fun e w' => ∃ g vs, e = .returned (.tuple #[.slice (some ⟨g, 0, none⟩) c.labs.length c.labs.length, .int .i64 0]) ∧ HeardAt w w' g c.labs.length vs (heardL c.labs f t l) := by
  have hbx := cfg_box w c vl vm
  obtain ⟨x0, x1, x2, x3, x4⟩ := cfg_at (heap_alloc_new w (.cells (c.cells vl vm) 25))
  have H := Lib.hid (h.on hbx)
  have S := Lib.hid (hb.below hbx)
  have Hb := Lib.hid hbx
  have hlen := hc.len
  have hn := hc.n
  have hf4 : f < 4 := by omega
  have ht4 : t < 4 := by omega
  have Hfo := Lib.hid (rumF_ok (f := f) (t := t) hlen hl)
  have KM := Lib.hid (fun (X : World) (hX : CfgAt X c vl vm) => cFMay hc hX)
  have KB := Lib.hid (fun (X : World) (vv : Value) (hX : Has X 1 vv 2 (ints [(f : Int), (t : Int)])) => cBranch (w := X) (vl := vl) (vm := vm) hc vv f t hf ht hX)
  have KS := Lib.hid (fun (X : World) (hX : CfgAt X c vl vm) => cShared hc hX f t hf4 ht4)
  have hil := shr_len c.labs f t c.labs.length
  have Hix := Lib.hid (shr_mem c.labs f t c.labs.length)
  have Hsort := Lib.hid (shr_sorted c.labs f t c.labs.length)
  have Height := Lib.hid (shr_eight (f := f) (t := t) hl)
  have Hl := Lib.hid hl
  have Hend := Lib.hid (heardP_heardL c.labs f t l)
  have Hfst := Lib.hid (rumF_fst c.labs f t l)
  have Hat := Lib.hid (rumF_at c.labs f t l)
  have hflen := rumF_len c.labs f t l
  obtain ⟨_, la, cl, rfl, hcl1, hcl2, _⟩ := h.hl
  obtain ⟨_, ma, cm, rfl, hcm1, hcm2, _⟩ := h.hm
  obtain ⟨_, ba, bc, rfl, hbc1, hbc2, _⟩ := hb
  unfold maxLen at hcl2 hcm2 hbc2
  unfold Cfg.cells at x0 x1 x2 x3 x4 Hb H S hbx KM KB KS ⊢
  generalize shr c.labs f t c.labs.length = ix at *
  generalize rumF c.labs f t l = F at *
  obtain ⟨N, hN⟩ : ∃ N, N = ix.length * 8 := ⟨_, rfl⟩
  rw [← hN] at Hfst hflen
  have HN := Lib.hid hN
  have hN40 : N ≤ 40 := by omega
  clear hbx hc h hl
  go_enter Tryz.func72, Tryz.ntmps72
  go_upto_region 1 with (fail)
  generalize (w.alloc (.cells #[.int .i64 c.n, .slice la c.labs.length cl, .int .i64 c.ticks, .slice ma c.minted.length cm, .int .i64 c.cap] 25)) = W at *
  go_wp2_with fail
  refine (KM.out _ H.out).mono ?_
  rintro e w1 ⟨rfl, hb1⟩
  have H1 := Lib.hid (H.out.on hb1)
  have S1 := Lib.hid (S.out.below hb1)
  have Hb1 := Lib.hid hb1
  replace x0 := cell_on hb1 x0
  replace x1 := cell_on hb1 x1
  replace x2 := cell_on hb1 x2
  replace x3 := cell_on hb1 x3
  replace x4 := cell_on hb1 x4
  clear hb1 KM H S
  have hba : Below w1.heap.size w1 (w1.alloc (.cells #[.int .i64 f, .int .i64 t] 3)) := (Below.refl _ _).alloc (Nat.le_refl _) _
  have KB1 := Lib.hid (KB.out (w1.alloc (.cells #[.int .i64 f, .int .i64 t] 3)) (.slice (some ⟨w1.heap.size, 0, none⟩) 2 2) (has_block (wp := w1) (cs := ints [(f : Int), (t : Int)]) (heap_alloc_new _ _) rfl rfl (by decide)))
  have Hba := Lib.hid hba
  clear KB hba
  go_wp2_with fail
  refine KB1.out.mono ?_
  rintro e w2 ⟨rfl, hb2⟩
  have hb12 : Below w1.heap.size w1 w2 := Hba.out.trans (hb2.mono Hba.out.size)
  have H2 := Lib.hid (H1.out.on hb12)
  have S2 := Lib.hid (S1.out.below hb12)
  have Hb2 := Lib.hid (Hb1.out.trans (hb12.mono Hb1.out.size))
  replace x0 := cell_on hb12 x0
  replace x1 := cell_on hb12 x1
  replace x2 := cell_on hb12 x2
  replace x3 := cell_on hb12 x3
  replace x4 := cell_on hb12 x4
  clear hb2 hb12 KB1 Hba H1 S1 Hb1
  go_wp2_with fail
  refine (KS.out _ H2.out).mono ?_
  rintro e w3 ⟨vi, rfl, howni, hb3⟩
  obtain ⟨ai, ci, rfl⟩ := owns_slice howni
  have HI := Lib.hid (Has.of_owns howni)
  have S3 := Lib.hid (S2.out.below hb3)
  have Hb3 := Lib.hid (Hb.out.trans ((Hb2.out.trans (hb3.mono Hb2.out.size)).mono Hb.out.size))
  replace x0 := cell_on hb3 x0
  replace x1 := cell_on hb3 x1
  have hib : ix.length ≤ ci ∧ ci ≤ maxLen := by
    obtain ⟨_, _, _, he, h1, h2, _⟩ := HI.out
    simp only [Value.slice.injEq] at he
    obtain ⟨-, -, rfl⟩ := he
    exact ⟨h1, h2⟩
  obtain ⟨hib1, hib2⟩ := hib
  unfold maxLen at hib2
  clear hb3 KS H2 S2 Hb2 howni Hb x2 x3 x4
  have hw8 : IntKind.i64.wrap ((ix.length : Int) * 8) = (N : Int) := by rw [show (ix.length : Int) * 8 = (N : Int) by omega]; exact IntWalk.i64_in _ (by omega)
  clear hN
  have hb34 : Below w3.heap.size w3 (w3.alloc (.cells #[.int .i64 34] 3)) := (Below.refl _ _).alloc (Nat.le_refl _) _
  have CR := Lib.hid (crepeatE (.slice (some ⟨w3.heap.size, 0, none⟩) 1 1) 34 N (w3.alloc (.cells #[.int .i64 34] 3)) (has_block (wp := w3) (cs := ints [34]) (heap_alloc_new _ _) rfl rfl (by decide)) (by omega))
  have Hb34 := Lib.hid hb34
  clear hb34
  go_wp2_with fail
  clear hw8
  refine CR.out.mono ?_
  rintro e w4 ⟨v4, rfl, hown4, hb4⟩
  obtain ⟨a4, c4, rfl⟩ := owns_slice hown4
  have hb4' := Hb34.out.trans (hb4.mono Hb34.out.size)
  have CU := Lib.hid (cunpackF (.slice a4 N c4) (.slice ba (recSize F) bc) F w4 Hfo.out (by rw [Hfst.out, hflen]; exact Has.of_owns hown4) (S3.out.below hb4'))
  rw [hflen] at CU
  have Hb4 := Lib.hid (Hb3.out.trans (hb4'.mono Hb3.out.size))
  have HI4 := Lib.hid (HI.out.below hb4')
  replace x0 := cell_on hb4' x0
  replace x1 := cell_on hb4' x1
  clear hown4 hb4 hb4' CR Hb34 S3 Hb3 HI
  go_wp2_with fail
  refine CU.out.mono ?_
  rintro e w5 ⟨v5, rfl, hown5, hb5⟩
  obtain ⟨a5, c5, rfl⟩ := owns_slice hown5
  have HV := Lib.hid (Has.of_owns hown5)
  have Hb5 := Lib.hid (Hb4.out.trans (hb5.mono Hb4.out.size))
  have HI5 := Lib.hid (HI4.out.below hb5)
  replace x1 := cell_on hb5 x1
  have hvc : N ≤ c5 ∧ c5 ≤ maxLen := by
    obtain ⟨_, _, _, he, h1, h2, _⟩ := HV.out
    simp only [Value.slice.injEq] at he
    obtain ⟨-, -, rfl⟩ := he
    exact ⟨h1, h2⟩
  obtain ⟨hvc1, hvc2⟩ := hvc
  unfold maxLen at hvc2
  have hmk : ∀ X : World, (Instr.makeSlice 44 (.int .i64 (c.labs.length : Int)) (.int .i64 (c.labs.length : Int))).run Tryz.prog X = .ok (.slice (some ⟨X.heap.size, 0, none⟩) c.labs.length c.labs.length) (X.alloc (.cells (List.replicate c.labs.length (Value.slice none 0 0)).toArray 43)) := fun X => run_mk infoEnts Tryz.underlying44 rfl X c.labs.length (by omega) (by omega)
  clear hown5 hb5 CU Hb4 HI4 x0
  generalize hA : (List.replicate c.labs.length (Value.slice none 0 0)).toArray = A at hmk
  have HA := Lib.hid hA
  clear hA
  go_upto_region 10 with (fail)
  clear hmk x1
  have hb6 : Below w5.heap.size w5 (w5.alloc (.cells A 43)) := (Below.refl _ _).alloc (Nat.le_refl _) _
  have hH0 : Hid (HAt (w5.alloc (.cells A 43)) w5.heap.size (w5.alloc (.cells A 43)).heap.size c.labs.length c.labs.length (fun _ => .slice none 0 0) (heardP ix l 0 0)) := by
    have e0 : ∀ j, heardP ix l 0 0 j = [] := fun j => heardP_zero j Height.out
    refine HAt.same (L := fun _ => []) ⟨?_, fun j hj => Has.of_owns (World.ownsRow_nil _ 0 77 5), fun _ _ => rfl, fun j hj hne b o n c hv => by simp at hv, World.ownsRow_nil _ _ _ _, by simp, Nat.le_refl _⟩ e0
    rw [heap_alloc_new, ← HA.out, List.map_const', List.length_range]
  have HB6 := Lib.hid hb6
  have hgw : w.heap.size ≤ w5.heap.size := Hb5.out.size
  have hA6 : (w5.alloc (.cells A 43)).heap.size = w5.heap.size + 1 := by simp
  generalize (w5.alloc (.cells A 43)) = w6 at *
  clear hb6 HA
  go_wp2_with fail
  go_loopw [14, 15, 16, 17, 18, 52, 57, 64, 81] (fun _ _ _ _ _ i _ _ _ wr => ∃ (a r : Nat) (B : Nat) (cur : Nat) (vs : Nat → Value), a ≤ ix.length ∧ r < 8 ∧ (a = ix.length → r = 0) ∧ i = .int .i64 ((a * 8 + r : Nat) : Int) ∧ Hid (HAt wr w5.heap.size B c.labs.length cur vs (heardP ix l a r)) ∧ Hid (0 < r → ix[a]? = some cur) ∧ Hid (Below w5.heap.size w5 wr)) (fun _ _ _ _ _ i _ _ _ _ => N - (intOf i).toNat)
  case atStart => exact ⟨0, 0, _, _, _, by omega, by omega, fun _ => rfl, rfl, hH0, fun h => absurd h (by omega), HB6⟩
  case round =>
    clear hH0 HB6
    obtain ⟨a, r, B, cur, vs, ha, hr, hae, rfl, HH, HC, HB⟩ := hrel
    by_cases hlt : a < ix.length
    · obtain ⟨B', HH'⟩ : ∃ B', Hid (HAt wr w5.heap.size B' c.labs.length ix[a] vs (heardP ix l a r)) := by
        by_cases hr0 : r = 0
        · subst hr0
          exact ⟨_, HH.out.fresh ix[a] (by rw [heardP_cur Hsort.out a 0 hlt, upTo_zero (Height.out _ (List.getElem_mem hlt))])⟩
        · have := HC.out (by omega)
          rw [List.getElem?_eq_getElem hlt] at this
          simp only [Option.some.injEq] at this
          exact ⟨B, by rw [this]; exact HH⟩
      clear HH HC B cur
      have hiL : ix[a] < c.labs.length := ((Hix.out ix[a]).1 (List.getElem_mem hlt)).1
      obtain ⟨a2, r2, hp2, ha2, hr2, hae2, hL2, hC2⟩ := hp_next (l := l) Hsort.out Height.out a r hlt hr
      have HL2 := Lib.hid hL2
      have HC2 := Lib.hid hC2
      have Hstep := Lib.hid (heardP_step (l := l) Hsort.out a r hlt (Height.out _ (List.getElem_mem hlt)))
      have hcu := heardP_cur (l := l) Hsort.out a r hlt
      have Hcu := Lib.hid hcu
      have hpz : ((a * 8 + r : Nat) : Int) < (N : Int) := by have := HN.out; omega
      -- the number
      obtain ⟨⟨hl0, _⟩, _, _, he, _, _, hcc⟩ := (HV.out.below HB.out)
      simp only [Value.slice.injEq] at he
      obtain ⟨rfl, -, rfl⟩ := he
      obtain ⟨bv, ov, rfl, hcell⟩ := hcc (by rw [ints_length, List.length_map, hflen]; have := HN.out; omega)
      have x0 := hcell (a * 8 + r) (.int .i64 (slotAt (l ix[a]) r)) (by
        have := Hat.out a r hlt hr
        unfold ints
        rw [List.getElem?_map, this]; rfl)
      clear hcell hcc hl0
      obtain ⟨⟨hl0, _⟩, _, _, he, _, _, hcc⟩ := (HI5.out.below HB.out)
      simp only [Value.slice.injEq] at he
      obtain ⟨rfl, -, rfl⟩ := he
      obtain ⟨bi, oi, rfl, hcell⟩ := hcc (by rw [ints_length, labInts_length']; omega)
      have y0 := hcell a (.int .i64 ix[a]) (by rw [ints_get _ a (by rw [labInts_length']; exact hlt)]; simp [labInts])
      clear hcell hcc hl0
      obtain ⟨hEk, hEv⟩ := Hl.out ix[a] hiL
      have hsb := slotAt_bd hEk hEv r
      have CE := Lib.hid (fun X => centry (r : Int) (slotAt (l ix[a]) r) hsb.1 (by omega) X)
      have hbv := World.block_lt_of_cell? wr _ x0
      have hbi := World.block_lt_of_cell? wr _ y0
      have hi4 : ((ix[a] : Nat) : Int) < (c.labs.length : Int) := by omega
      have hal := hlt
      obtain ⟨p, hp⟩ : ∃ p, p = a * 8 + r := ⟨_, rfl⟩
      rw [← hp] at x0 hpz hp2 ⊢
      have hpa : p / 8 = a := by omega
      have hpr : p % 8 = r := by omega
      have q1 : (p : Int) / 8 = (a : Int) := by omega
      have q2 : (p : Int).tmod 8 = (r : Int) := by rw [Int.tmod_eq_emod_of_nonneg (by omega)]; omega
      have q3 : IntKind.i64.wrap (a : Int) = a := IntWalk.i64_in _ (by omega)
      have hPz : (p : Int) < 9223372036854775807 := by omega
      have haz : (a : Int) < (ix.length : Int) := by omega
      have HP2 := Lib.hid hp2
      have HAE := Lib.hid hae2
      have HA2 := Lib.hid ha2
      have HR2 := Lib.hid hr2
      clear hp hpa hpr hp2 hae2 ha2 hr2 hae hr ha hL2 hC2 hcu
      cases hlk : look (l ix[a]) r with
      | none =>
        have hs0 : slotAt (l ix[a]) r = 0 := by unfold slotAt; rw [hlk]
        rw [hs0] at x0 CE
        rw [slot_none] at CE
        have hst : ∀ j, heardP ix l a (r + 1) j = heardP ix l a r j := fun j => by rw [Hstep.out j, hlk]
        have hfin : Hid (∀ X, Below wr.heap.size wr X → HAt X w5.heap.size B' c.labs.length ix[a] vs (heardP ix l a2 r2)) := fun X hX => (HH'.out.on hX).same (fun j => by rw [HL2.out j, hst j])
        have HE := HC2
        clear hst Hstep Hcu hEk hEv hsb hlk hs0 HH' HL2
        unfold Ent.val at CE
        simp only at CE
        generalize ix[a] = cur at *
        go_upto_region 13 with (fail)
        go_wp2_with fail
        refine (CE.out _).mono ?_
        rintro e w7 ⟨rfl, hb7⟩
        have hb8 : Below wr.heap.size wr (w7.alloc (.cells #[.int .i64 r, .int .i64 0, .int .i64 0, .int .i64 0, .bool false] 77)) := hb7.alloc hb7.size _
        have HF := Lib.hid (hfin.out _ hb8)
        have HB8 := Lib.hid (HB.out.trans (hb8.mono HB.out.size))
        clear hb7 hb8 CE hfin HB x0 y0
        go_wp2_with fail
        go_roundw
        case rel => exact ⟨a2, r2, B', cur, vs, HA2.out, HR2.out, HAE.out, by rw [HP2.out]; go_num, HF, HE, HB8⟩
        case measure => first | (simp [intOf]; done) | (simp [intOf]; omega)
      | some e =>
        have hek := (look_some hlk).2
        have hem := (look_some hlk).1
        have heo := hEk.may.ok e hem
        have hev := hEv e hem
        have hs0 : slotAt (l ix[a]) r = slotOf e := by unfold slotAt; rw [hlk]
        rw [hs0] at x0 CE
        have hback := slot_back heo hev
        rw [hek] at hback
        rw [hback] at CE
        unfold Ent.val at CE
        simp only at CE
        have hst : ∀ j, heardP ix l a (r + 1) j = updF (heardP ix l a r) ix[a] (heardP ix l a r ix[a] ++ [e]) j := fun j => by rw [Hstep.out j, hlk]
        have CS := Lib.hid (fun X => cslot e heo hev X)
        have hone : EightL [e] := EightL.one heo (hEk.eight e hem)
        have HO := Lib.hid hone.may
        have happ : Hid (∀ (w' X : World) (v' : Value), Below wr.heap.size wr w' → Below B' w' X → X.ownsRow B' 77 5 v' ((heardP ix l a r ix[a]).length + 1) (ents (heardP ix l a r ix[a]) ++ e.cells) → HAt (X.setCell ⟨w5.heap.size, ix[a], none⟩ v') w5.heap.size B' c.labs.length ix[a] (updF vs ix[a] v') (heardP ix l a2 r2)) := fun w' X v' h1 h2 h3 =>
          ((HH'.out.on h1).app hiL h2 h3).same (fun j => by rw [HL2.out j, hst j])
        have hcl : (heardP ix l a r ix[a]).length ≤ 8 := by
          rw [Hcu.out]
          exact Nat.le_trans (List.length_filter_le _ _) hEk.len
        have HE := HC2
        have hown := Lib.hid (fun X (h1 : Below wr.heap.size wr X) => (HH'.out.on h1).own)
        have hcellG := Lib.hid (fun X (h1 : Below wr.heap.size wr X) => (HH'.out.on h1).cell ix[a] hiL)
        have hownlt := Lib.hid (own_lt HH'.out.own)
        have hkeep := Lib.hid (fun w' X (h1 : Below wr.heap.size wr w') (h2 : Below B' w' X) => (HH'.out.on h1).keep hiL h2)
        obtain ⟨hgB, hBS⟩ : w5.heap.size < B' ∧ B' ≤ wr.heap.size := ⟨HH'.out.gB, HH'.out.BS⟩
        have Hek := Lib.hid hek
        clear hst Hstep Hcu hEk hEv hsb hlk hs0 HL2 hback heo hev hem hone hek
        generalize slotOf e = sl at *
        generalize heardP ix l a r ix[a] = L at *
        generalize ix[a] = cur at *
        generalize vs cur = vc at *
        obtain ⟨ek, ev, et, eh, eg⟩ := e
        simp only at CE CS
        go_upto_region 13 with (fail)
        go_wp2_with fail
        refine (CE.out _).mono ?_
        rintro e w7 ⟨rfl, hb7⟩
        have hbx : Below wr.heap.size wr (w7.alloc (.cells #[.int .i64 ek, .int .i64 ev, .int .i64 et, .int .i64 eh, .bool eg] 77)) := hb7.alloc hb7.size _
        obtain ⟨⟨z0, z1, z2, z3, z4⟩, -⟩ := five_at (heap_alloc_new w7 (.cells #[.int .i64 ek, .int .i64 ev, .int .i64 et, .int .i64 eh, .bool eg] 77))
        have hszx : w7.heap.size < (w7.alloc (.cells #[.int .i64 ek, .int .i64 ev, .int .i64 et, .int .i64 eh, .bool eg] 77)).heap.size := by simp
        have hsz7 := hb7.size
        replace y0 := cell_on hbx y0
        have Hbx := Lib.hid hbx
        obtain ⟨xG, -⟩ := hcellG.out _ hbx
        have hszX := hbx.size
        clear hbx hb7 CE x0
        go_upto_region 14 with (fail)
        generalize (w7.alloc (.cells #[.int .i64 ek, .int .i64 ev, .int .i64 et, .int .i64 eh, .bool eg] 77)) = W8 at *
        have hown8 := Lib.hid (hown.out _ Hbx.out)
        have hkeep8 := Lib.hid (fun X hX => hkeep.out W8 X Hbx.out hX)
        have hsz8 : B' ≤ W8.heap.size := Nat.le_trans hBS hszX
        have hGlt : w5.heap.size < W8.heap.size := Nat.lt_of_lt_of_le hgB hsz8
        go_upto_region 16 with (fail)
        go_region_law (first
          | (refine step_appN (w0 := W8) (wanted_of_none (by rfl)) 43 77 5 40 _ elEntry Tryz.underlying43 B' vc L.length (ents L) hown8.out (by repeat (first | exact Below.refl _ _ | refine Below.drew ?_ | refine Below.alloc ?_ (by first | (simp; done) | (simp; omega)) _ | refine Below.setCell ?_ (by first | (simp; done) | (simp; omega)) _)) (.slice (some ⟨W8.heap.size, 0, none⟩) 1 1) 1 [.int .i64 ek, .int .i64 ev, .int .i64 et, .int .i64 eh, .bool eg] (has_block (wp := W8) (by first | exact heap_alloc_new _ _ | (simp only [heap_drew, heap_drewN]; exact heap_alloc_new _ _)) (by rfl) (by rfl) (by decide)) _ _ (by rfl) (by rfl) (by rfl) (by simp [Value.oneCell']) (by omega) (by unfold maxLen; omega) hsz8 ?_; intro v9 w9 hown9 hgrow9 hb9; obtain ⟨a9, c9, rfl⟩ := owns_slice hown9; obtain ⟨x9, f9⟩ := hkeep8.out _ hb9))
        all_goals
          have hH := Lib.hid (happ.out W8 w9 _ Hbx.out hb9 hown9)
          have hne : some w7.heap.size ≠ vc.ownBlock := fun h => by have := hownlt.out _ h.symm; omega
          have hfar : w5.heap.size ≠ w7.heap.size := by omega
          have t0 := cell_grown hgrow9 hszx hne z0
          have t1 := cell_grown hgrow9 hszx hne z1
          have t2 := cell_grown hgrow9 hszx hne z2
          have t3 := cell_grown hgrow9 hszx hne z3
          have t4 := cell_grown hgrow9 hszx hne z4
          obtain ⟨s0, s1, s2, s3, s4⟩ := five_far (k := cur) (u := .slice a9 (L.length + 1) c9) hfar t0 t1 t2 t3 t4
          have hB10 : Hid (Below w5.heap.size w5 (w9.setCell ⟨w5.heap.size, cur, none⟩ (.slice a9 (L.length + 1) c9))) :=
            ((HB.out.trans (Hbx.out.mono HB.out.size)).trans (hb9.mono (Nat.le_of_lt hgB))).setCell (Nat.le_refl _) _
          clear hown9 hgrow9 hb9 x9 f9 t0 t1 t2 t3 t4 z0 z1 z2 z3 z4 hown8 hkeep8 xG y0
          generalize (w9.setCell ⟨w5.heap.size, cur, none⟩ (.slice a9 (L.length + 1) c9)) = w10 at *
          go_wp2_with fail
          refine (CS.out _).mono ?_
          rintro e w11 ⟨rfl, hb11⟩
          have CM := Lib.hid (cmay (.slice (some ⟨w11.heap.size, 0, none⟩) 1 1) [⟨ek, ev, et, eh, eg⟩] (w11.alloc (.cells #[.int .i64 ek, .int .i64 ev, .int .i64 et, .int .i64 eh, .bool eg] 77)) (has_block (wp := w11) (cs := ents [⟨ek, ev, et, eh, eg⟩]) (heap_alloc_new _ _) rfl rfl (by decide)) HO.out (by simp))
          replace s0 := cell_on hb11 s0
          replace s1 := cell_on hb11 s1
          replace s2 := cell_on hb11 s2
          replace s3 := cell_on hb11 s3
          replace s4 := cell_on hb11 s4
          have hb12 : Below w10.heap.size w10 (w11.alloc (.cells #[.int .i64 ek, .int .i64 ev, .int .i64 et, .int .i64 eh, .bool eg] 77)) := hb11.alloc hb11.size _
          have Hb12 := Lib.hid hb12
          clear hb11 hb12 CS
          go_wp2_with fail
          refine CM.out.mono ?_
          rintro e w13 ⟨rfl, hb13⟩
          have hb14 := Hb12.out.trans (hb13.mono Hb12.out.size)
          have HF := Lib.hid (hH.out.on hb14)
          have HB14 := Lib.hid (hB10.out.trans (hb14.mono hB10.out.size))
          clear hb13 hb14 CM Hb12 hH hB10 s0 s1 s2 s3 s4 happ hown hkeep hcellG
          go_wp2_with fail
          go_roundw
          case rel => exact ⟨a2, r2, B', cur, _, HA2.out, HR2.out, HAE.out, by rw [HP2.out]; go_num, HF, HE, HB14⟩
          case measure => first | (simp [intOf]; done) | (simp [intOf]; omega)
    · obtain rfl : a = ix.length := by omega
      obtain rfl := hae rfl
      have hfin : Hid (HeardAt w wr w5.heap.size c.labs.length vs (heardL c.labs f t l)) := by
        have h1 := HH.out.same (L' := heardL c.labs f t l) (fun j => (Hend.out j).symm)
        exact ⟨h1.cells, h1.rows, h1.nil, hgw, Hb5.out.trans (HB.out.mono hgw), fun j hj b o n c hv => Nat.le_trans hgw (h1.far j hj b o n c hv)⟩
      have hnz : ¬ ((ix.length * 8 + 0 : Nat) : Int) < (N : Int) := by have := HN.out; omega
      obtain ⟨p, hp⟩ : ∃ p, p = ix.length * 8 + 0 := ⟨_, rfl⟩
      rw [← hp] at hnz ⊢
      have hpN : p = N := by have := HN.out; omega
      subst hpN
      clear hp hnz HH HC HB
      go_wp2_with fail
      go_ret2
      exact ⟨_, rfl, _, hfin.out⟩
end Go.Proofs.YtjdedflfdlhkdaaGreatDoor

namespace Go.Proofs.YtjdedflfdlhkdaaGreatDoor
open Go.ChangeShapes Go.WideShapes Go.ChangeAt Go.RowKit
set_option linter.unusedVariables false
set_option linter.unusedSimpArgs false

theorem cWantW {w : World} {c : Cfg} {X : Adr} {own : Own} {N : Nat} {s : Wld} (h : WAt w c X own N s) (hn : c.n ≤ 4) (k : Nat) (hk : k < c.items) (hb : BkOk c.n (s.bk k)) (who : Nat) (hw : who < c.n) (x : Int) :
    Calls Tryz.prog 70 #[.pointer (some ⟨X.K k, 0, none⟩), .int .i64 who, .int .i64 x] w fun e w' => e = .returned (.tuple #[]) ∧ ∃ own', WAt w' c X own' N { s with bk := updF s.bk k ((s.bk k).want who x) } ∧ Went own own' w w' := by
  obtain ⟨gw, gg, gq, cq, q, t1, t2, t3, t4⟩ := (h.bk k hk).ex
  refine (cwantBook q who x hw hb.lw (by omega)).mono ?_
  rintro e w' ⟨he, hq, hwr⟩
  obtain ⟨own', r1, r2, -⟩ := BksAt.put (b := s.bk k) (cq := cq) h.lt t1 t2 t3 t4 hq (.inl rfl) hwr
  exact ⟨he, own', h.book k hk r1 r2, r2.went⟩
theorem cLearnW {w : World} {c : Cfg} {X : Adr} {own : Own} {N : Nat} {s : Wld} (h : WAt w c X own N s) (hl : c.labs.length ≤ 4) (i j : Nat) (hi : i < c.n) (hj : j < c.labs.length) (v : Value) (b : List Ent) (hv : Has w 5 v b.length (ents b)) (hb : EightL b) :
    Calls Tryz.prog 73 #[.slice (some ⟨X.T i, 0, none⟩) c.labs.length c.labs.length, .int .i64 j, v] w fun e w' => e = .returned (.tuple #[]) ∧ ∃ own', WAt w' c X own' N { s with st := upd2 s.st i j (mergeL (s.st i j) b) } ∧ Went own own' w w' := by
  obtain ⟨vs, q1, q2⟩ := (h.st i hi).ex
  refine (cLearnF q1 j hj hl v b hv hb).mono ?_
  rintro e w' ⟨he, v', r1, r2, r3⟩
  obtain ⟨q, hu⟩ := StAt.put h.lt (h.st i hi).tag q2 r1 r2 hj r3
  refine ⟨he, _, ⟨hu.lt h.lt, h.fix.keep hu (by simp), fun x hx => (h.sh x hx).keep hu (by simp) (by simp), fun x hx => (h.asks x hx).keep hu (by simp), fun x hx => (h.gain x hx).keep hu (by simp), fun x hx => ?_, fun x hx => (h.bk x hx).keep hu (by simp), h.off.keep hu (by simp), h.lost.keep hu (by simp)⟩, hu.went⟩
  by_cases e : x = i
  · subst e
    have : upd2 s.st x j (mergeL (s.st x j) b) x = updF (s.st x) j (mergeL (s.st x j) b) := by funext y; unfold upd2 updF; simp
    simp only [this]; exact q
  · have : upd2 s.st i j (mergeL (s.st i j) b) x = s.st x := by funext y; exact upd2_ne _ _ (by omega)
    simp only [this]
    exact (h.st x hx).keep hu (by simp [e])
set_option maxRecDepth 100000 in
set_option maxHeartbeats 4000000 in
theorem cDelOld {w : World} {c : Cfg} {X : Adr} {own : Own} {N : Nat} {s : Wld} (h : WAt w c X own N s) (hN : N ≤ 1000000) (i : Nat) (hi : i < s.ls.length) (hd : s.due i = 10) :
    Calls Tryz.prog 55 #[.pointer (some ⟨X.W, 0, none⟩), .int .i64 i] w (Stepped w c X own N (s.deliver c i)) := by
  have hdd : s.deliver c i = ({ noT 10 with who := s.to' i }, s) := by
    unfold Wld.deliver
    rw [if_neg (by rw [hd]; decide), if_pos hd]
    simp
  rw [hdd]
  have hb := told_new w
  have hG := (Gone.start h).on hb
  have hM : Mine own _ w.heap.size _ := ⟨(Gone.start h).none (Nat.le_refl _), heap_alloc_new w (.cells #[.int .i64 0, .int .i64 0, .int .i64 0, .int .i64 0, .int .i64 0, .int .i64 0, .int .i64 0, .int .i64 0, .slice none 0 0, .slice none 0 0, .slice none 0 0] 57)⟩
  have G := Lib.hid hG
  have M := Lib.hid hM
  have CD := Lib.hid (cDue hG.at' hN i hi)
  rw [hd] at CD
  clear hb hG hM h hd hdd
  go_enter Tryz.func55, Tryz.ntmps55
  go_upto_region 1 with (fail)
  generalize (w.alloc (.cells #[.int .i64 0, .int .i64 0, .int .i64 0, .int .i64 0, .int .i64 0, .int .i64 0, .int .i64 0, .int .i64 0, .slice none 0 0, .slice none 0 0, .slice none 0 0] 57)) = W at *
  go_wp2_with fail
  refine CD.out.mono ?_
  rintro e w2 ⟨rfl, hb2⟩
  have G2 := Lib.hid (G.out.on hb2)
  have M2 := Lib.hid (M.out.on hb2)
  clear hb2 G M CD
  obtain ⟨-, -, -, -, -, -, -, x7, x8⟩ := G2.out.at'.head
  have CT := Lib.hid (cTo G2.out.at'.off i (by simpa using hi))
  simp only at CT
  rw [ltr_t c.labs s.ls i hi] at CT
  have hto : Hid (s.to' i = (s.ls.map (·.t)).getD i 0) := rfl
  rw [← hto.out] at CT
  generalize s.to' i = tt at *
  have hT := heap_alloc_new w2 (.cells #[.int .i64 10, .int .i64 tt, .int .i64 0, .int .i64 0, .int .i64 0, .int .i64 0, .int .i64 0, .int .i64 0, .slice none 0 0, .slice none 0 0, .slice none 0 0] 57)
  have hb3 : Below w2.heap.size w2 (w2.alloc (.cells #[.int .i64 10, .int .i64 tt, .int .i64 0, .int .i64 0, .int .i64 0, .int .i64 0, .int .i64 0, .int .i64 0, .slice none 0 0, .slice none 0 0, .slice none 0 0] 57)) := (Below.refl _ _).alloc (Nat.le_refl _) _
  have G3 := Lib.hid (G2.out.on hb3)
  have M3 := Lib.hid (M2.out.on hb3)
  have HT := Lib.hid hT
  clear hb3 hT G2 M2
  go_upto_region 5 with (go_at_call 66; refine CT.out.mono ?_; rintro e w' ⟨rfl, rfl⟩)
  generalize (w2.alloc (.cells #[.int .i64 10, .int .i64 tt, .int .i64 0, .int .i64 0, .int .i64 0, .int .i64 0, .int .i64 0, .int .i64 0, .slice none 0 0, .slice none 0 0, .slice none 0 0] 57)) = W3 at *
  clear x7 x8 CT
  obtain ⟨⟨y0, y1, y2, y3, y4, y5, y6, y7, y8, y9, y10⟩, yf⟩ := eleven_at M3.out.hb
  have yf0 := yf 0
  have yf1 := yf 1
  have yf2 := yf 2
  have yf3 := yf 3
  have yf4 := yf 4
  have yf5 := yf 5
  have yf6 := yf 6
  have yf7 := yf 7
  have yf8 := yf 8
  have yf9 := yf 9
  have yf10 := yf 10
  clear yf
  obtain ⟨⟨z0, z1, z2, z3, z4, z5, z6, z7, z8, z9, z10⟩, zf⟩ := eleven_at HT.out
  have zf0 := zf 0
  have zf1 := zf 1
  have zf2 := zf 2
  have zf3 := zf 3
  have zf4 := zf 4
  have zf5 := zf 5
  have zf6 := zf 6
  have zf7 := zf 7
  have zf8 := zf 8
  have zf9 := zf 9
  have zf10 := zf 10
  clear zf
  obtain ⟨W6, hW6⟩ : ∃ xx, xx = put11 W3 w.heap.size (.int .i64 10) (.int .i64 tt) (.int .i64 0) (.int .i64 0) (.int .i64 0) (.int .i64 0) (.int .i64 0) (.int .i64 0) (.slice none 0 0) (.slice none 0 0) (.slice none 0 0) := ⟨_, rfl⟩
  have h6 := (M3.out).put11 (.int .i64 10) (.int .i64 tt) (.int .i64 0) (.int .i64 0) (.int .i64 0) (.int .i64 0) (.int .i64 0) (.int .i64 0) (.slice none 0 0) (.slice none 0 0) (.slice none 0 0)
  have hG6 := (G3.out).set11 (by first | omega | (simp; done) | (simp; omega)) (M3.out).ho (.int .i64 10) (.int .i64 tt) (.int .i64 0) (.int .i64 0) (.int .i64 0) (.int .i64 0) (.int .i64 0) (.int .i64 0) (.slice none 0 0) (.slice none 0 0) (.slice none 0 0)
  rw [← hW6] at h6 hG6
  unfold put11 at hW6
  have HW6 := Lib.hid hW6
  have HG6 := Lib.hid hG6
  obtain ⟨⟨t0, t1, t2, t3, t4, t5, t6, t7, t8, t9, t10⟩, -⟩ := eleven_at h6.hb
  clear hW6 hG6 h6
  go_wp2_with fail
  rw [← HW6.out]
  refine bodyPost_ret (v := .agg #[.int .i64 10, .int .i64 tt, .int .i64 0, .int .i64 0, .int .i64 0, .int .i64 0, .int .i64 0, .int .i64 0, .slice none 0 0, .slice none 0 0, .slice none 0 0]) (by simp [results, Tryz.results55, go_sem, t0, t1, t2, t3, t4, t5, t6, t7, t8, t9, t10]) rfl ?_
  exact ⟨own, nil0, nil0, nil0, rfl, TldAt.none _ _ _ rfl rfl rfl, HG6.out.at', HG6.out.go, far0 _⟩
end Go.Proofs.YtjdedflfdlhkdaaGreatDoor

namespace Go.Proofs.YtjdedflfdlhkdaaGreatDoor
open Go.ChangeShapes Go.WideShapes Go.ChangeAt Go.RowKit
set_option linter.unusedVariables false
set_option linter.unusedSimpArgs false

def Stp.cells (p : Stp) : List Value := [.int .i64 p.kind, .int .i64 p.who, .int .i64 p.item, .int .i64 p.count, .int .i64 p.life, .int .i64 p.id, .int .i64 p.label, .int .i64 p.key]
def Stp.val (p : Stp) : Value := .agg p.cells.toArray
theorem eight_at {W : World} {b : Nat} {a0 a1 a2 a3 a4 a5 a6 a7 : Value} {e : TypeId} (h : W.heap[b]? = some (.cells #[a0, a1, a2, a3, a4, a5, a6, a7] e (0, 0))) :
    W.cell? ⟨b, 0, none⟩ = some a0 ∧ W.cell? ⟨b, 1, none⟩ = some a1 ∧ W.cell? ⟨b, 2, none⟩ = some a2 ∧ W.cell? ⟨b, 3, none⟩ = some a3 ∧ W.cell? ⟨b, 4, none⟩ = some a4 ∧ W.cell? ⟨b, 5, none⟩ = some a5 ∧ W.cell? ⟨b, 6, none⟩ = some a6 ∧ W.cell? ⟨b, 7, none⟩ = some a7 := by
  refine ⟨?_, ?_, ?_, ?_, ?_, ?_, ?_, ?_⟩ <;> rw [cell_of_row W _ _ _ _ _ h] <;> rfl
theorem boxed {w : World} {c : Cfg} {X : Adr} {own : Own} {N : Nat} {s : Wld} (h : WAt w c X own N s) (a0 a1 a2 a3 a4 a5 a6 a7 : Value) :
    Gone w own ((w.alloc (.cells #[a0, a1, a2, a3, a4, a5, a6, a7] 48)).alloc (.cells #[.int .i64 0, .int .i64 0, .int .i64 0, .int .i64 0, .int .i64 0, .int .i64 0, .int .i64 0, .int .i64 0, .slice none 0 0, .slice none 0 0, .slice none 0 0] 57)) c X own N s ∧
    Mine own ((w.alloc (.cells #[a0, a1, a2, a3, a4, a5, a6, a7] 48)).alloc (.cells #[.int .i64 0, .int .i64 0, .int .i64 0, .int .i64 0, .int .i64 0, .int .i64 0, .int .i64 0, .int .i64 0, .slice none 0 0, .slice none 0 0, .slice none 0 0] 57)) w.heap.size (.cells #[a0, a1, a2, a3, a4, a5, a6, a7] 48 (0, 0)) ∧
    Mine own ((w.alloc (.cells #[a0, a1, a2, a3, a4, a5, a6, a7] 48)).alloc (.cells #[.int .i64 0, .int .i64 0, .int .i64 0, .int .i64 0, .int .i64 0, .int .i64 0, .int .i64 0, .int .i64 0, .slice none 0 0, .slice none 0 0, .slice none 0 0] 57)) (w.heap.size + 1) (.cells #[.int .i64 0, .int .i64 0, .int .i64 0, .int .i64 0, .int .i64 0, .int .i64 0, .int .i64 0, .int .i64 0, .slice none 0 0, .slice none 0 0, .slice none 0 0] 57 (0, 0)) := by
  have hb : Below w.heap.size w (w.alloc (.cells #[a0, a1, a2, a3, a4, a5, a6, a7] 48)) := (Below.refl _ _).alloc (Nat.le_refl _) _
  have g1 := (Gone.start h).on hb
  have g2 := g1.on (told_new _)
  have m1 : Mine own (w.alloc (.cells #[a0, a1, a2, a3, a4, a5, a6, a7] 48)) w.heap.size _ := ⟨(Gone.start h).none (Nat.le_refl _), heap_alloc_new _ _⟩
  have hs : (w.alloc (.cells #[a0, a1, a2, a3, a4, a5, a6, a7] 48)).heap.size = w.heap.size + 1 := by simp
  refine ⟨g2, m1.on (told_new _), ⟨g1.none (by rw [hs]; exact Nat.le_refl _), ?_⟩⟩
  rw [← hs]; exact heap_alloc_new _ _
theorem cPutW {w : World} {c : Cfg} {X : Adr} {own : Own} {N : Nat} {s : Wld} (h : WAt w c X own N s) (hl : c.labs.length ≤ 4) (i j : Nat) (hi : i < c.n) (hj : j < c.labs.length) (who key value : Int) (hok : Ent.Ok ⟨key, value, maxT (s.st i j) + 1, who, false⟩) (hk : 0 ≤ key ∧ key < 8) :
    Calls Tryz.prog 89 #[.slice (some ⟨X.T i, 0, none⟩) c.labs.length c.labs.length, .int .i64 j, .int .i64 who, .int .i64 key, .int .i64 value, .bool false] w fun e w' => e = .returned (.tuple #[]) ∧ ∃ own', WAt w' c X own' N { s with st := upd2 s.st i j (mergeL (s.st i j) [⟨key, value, maxT (s.st i j) + 1, who, false⟩]) } ∧ Went own own' w w' := by
  obtain ⟨vs, q1, q2⟩ := (h.st i hi).ex
  refine (cPutF q1 j hj hl who key value false hok hk).mono ?_
  rintro e w' ⟨he, v', r1, r2, r3⟩
  obtain ⟨q, hu⟩ := StAt.put h.lt (h.st i hi).tag q2 r1 r2 hj r3
  refine ⟨he, _, ⟨hu.lt h.lt, h.fix.keep hu (by simp), fun x hx => (h.sh x hx).keep hu (by simp) (by simp), fun x hx => (h.asks x hx).keep hu (by simp), fun x hx => (h.gain x hx).keep hu (by simp), fun x hx => ?_, fun x hx => (h.bk x hx).keep hu (by simp), h.off.keep hu (by simp), h.lost.keep hu (by simp)⟩, hu.went⟩
  by_cases e : x = i
  · subst e
    have : ∀ b, upd2 s.st x j b x = updF (s.st x) j b := fun b => by funext y; unfold upd2 updF; simp
    simp only [this]; exact q
  · have : ∀ b, upd2 s.st i j b x = s.st x := fun b => by funext y; exact upd2_ne _ _ (by omega)
    simp only [this]
    exact (h.st x hx).keep hu (by simp [e])
theorem cFindW {w : World} {c : Cfg} {X : Adr} {own : Own} {N : Nat} {s : Wld} (h : WAt w c X own N s) (hl : c.labs.length ≤ 4) (i j : Nat) (hi : i < c.n) (hj : j < c.labs.length) (key : Int) :
    Calls Tryz.prog 90 #[.slice (some ⟨X.T i, 0, none⟩) c.labs.length c.labs.length, .int .i64 j, .int .i64 key] w fun e w' => ∃ x : Ent, (e = .returned (.tuple #[.agg #[.int .i64 x.k, .int .i64 x.v, .int .i64 x.t, .int .i64 x.h, .bool x.g], .bool (liveK (s.st i j) key)]) ∧ x.v = valK (s.st i j) key) ∧ Below w.heap.size w w' := by
  obtain ⟨vs, q1, q2⟩ := (h.st i hi).ex
  exact cFindV q1 j hj hl key
theorem far5 {W : World} {b j g : Nat} {v : Value} (hne : b ≠ g) (h : W.cell? ⟨b, j, none⟩ = some v) {x0 x1 x2 x3 x4 : Value} : (((((W.setCell ⟨g, 0, none⟩ x0).setCell ⟨g, 1, none⟩ x1).setCell ⟨g, 2, none⟩ x2).setCell ⟨g, 3, none⟩ x3).setCell ⟨g, 4, none⟩ x4).cell? ⟨b, j, none⟩ = some v := by
  have e : ∀ (x : World) (j : Nat) (u : Value), (x.setCell ⟨g, j, none⟩ u).heap[b]? = x.heap[b]? := fun x j u => Below.heap_setCell _ _ _ _ (by exact hne)
  rw [World.cell?_of_block (w := W) (a := ⟨b, j, none⟩) (by simp only [e])]; exact h
/-- Is it asked for what there is not? -/
def badE (m : Nat) (kind label key count : Int) : Prop := label < 0 ∨ (m : Int) ≤ label ∨ key < 0 ∨ 8 ≤ key ∨ (kind = 7 ∧ (count < 0 ∨ 255 < count))
instance (m : Nat) (kind label key count : Int) : Decidable (badE m kind label key count) := by unfold badE; exact inferInstance
end Go.Proofs.YtjdedflfdlhkdaaGreatDoor
