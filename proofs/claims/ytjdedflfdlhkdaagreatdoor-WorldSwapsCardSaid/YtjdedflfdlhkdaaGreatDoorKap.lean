/- Texts that the claim imports, laid together: WBegun. No statement of their own. -/
import Derived.Test.YtjdedflfdlhkdaaGreatDoorKal
import Derived.Test.YtjdedflfdlhkdaaGreatDoorKao
namespace Go.Proofs.YtjdedflfdlhkdaaGreatDoor
open Go.ChangeShapes Go.WideShapes Go.ChangeAt Go.RowKit
set_option linter.unusedVariables false
set_option linter.unusedSimpArgs false

theorem begun_i {W1 Y w5 : World} {S B : Nat} (c : Cfg) (vl vm : Value) (hY : Below W1.heap.size W1 Y) (hb5 : Below Y.heap.size Y w5) (hO : OffAt w5 (fun b => Y.heap.size ≤ b) S B 0 ⟨[], fun _ _ => 0⟩) :
    ∃ X own, (X.vl = vl ∧ X.vm = vm ∧ X.W = (w5.alloc (.map #[] 0)).heap.size ∧ X.O = S ∧ X.L = w5.heap.size) ∧ PAt W1 ((w5.alloc (.map #[] 0)).alloc (.cells #[.int .i64 c.n, vl, .int .i64 c.ticks, vm, .int .i64 c.cap, .slice none 0 0, .slice none 0 0, .pointer (some ⟨S, 0, none⟩), .map (some w5.heap.size)] 95)) c X own 0 0 (.slice none 0 0) (.slice none 0 0) := by
  have hm : Below w5.heap.size w5 (w5.alloc (.map #[] 0)) := (Below.refl _ _).alloc (Nat.le_refl _) _
  have h5 : Below W1.heap.size W1 w5 := hY.trans (hb5.mono hY.size)
  exact PAt.start c vl vm (h5.trans (hm.mono h5.size)) ((hO.reF (G := fun b => W1.heap.size ≤ b ∧ b ≠ w5.heap.size) fun b hb hF => ⟨Nat.le_trans hY.size hF, by omega⟩).on hm) (LostMap.made w5) h5.size
theorem begun_ii {W1 Y w5 : World} {S B L : Nat} (c : Cfg) (vl vm : Value) (hY : Below W1.heap.size W1 Y) (lo : LostMap Y L 0 fun _ => false) (hL : W1.heap.size ≤ L) (hb5 : Below Y.heap.size Y w5) (hO : OffAt w5 (fun b => Y.heap.size ≤ b) S B 0 ⟨[], fun _ _ => 0⟩) :
    ∃ X own, (X.vl = vl ∧ X.vm = vm ∧ X.W = w5.heap.size ∧ X.O = S ∧ X.L = L) ∧ PAt W1 (w5.alloc (.cells #[.int .i64 c.n, vl, .int .i64 c.ticks, vm, .int .i64 c.cap, .slice none 0 0, .slice none 0 0, .pointer (some ⟨S, 0, none⟩), .map (some L)] 95)) c X own 0 0 (.slice none 0 0) (.slice none 0 0) := by
  have hl := lo.lt
  exact PAt.start c vl vm (hY.trans (hb5.mono hY.size)) (hO.reF (G := fun b => W1.heap.size ≤ b ∧ b ≠ L) fun b hb hF => ⟨Nat.le_trans hY.size hF, by omega⟩) (lo.kept (hb5.block _ hl)) hL
theorem four_heap (w : World) (o1 o2 o3 o4 : Obj) : ((((w.alloc o1).alloc o2).alloc o3).alloc o4).heap[w.heap.size]? = some o1 ∧ ((((w.alloc o1).alloc o2).alloc o3).alloc o4).heap[w.heap.size + 1]? = some o2 ∧ ((((w.alloc o1).alloc o2).alloc o3).alloc o4).heap[w.heap.size + 1 + 1]? = some o3 ∧ ((((w.alloc o1).alloc o2).alloc o3).alloc o4).heap[w.heap.size + 1 + 1 + 1]? = some o4 ∧ ((((w.alloc o1).alloc o2).alloc o3).alloc o4).heap.size = w.heap.size + 1 + 1 + 1 + 1 ∧ Below w.heap.size w ((((w.alloc o1).alloc o2).alloc o3).alloc o4) := by
  refine ⟨?_, ?_, ?_, ?_, by simp, ((((Below.refl _ _).alloc (Nat.le_refl _) _).alloc (by first | (simp; done) | (simp; omega)) _).alloc (by first | (simp; done) | (simp; omega)) _).alloc (by first | (simp; done) | (simp; omega)) _⟩
  · rw [Below.heap_alloc _ _ _ (by first | (simp; done) | (simp; omega)), Below.heap_alloc _ _ _ (by first | (simp; done) | (simp; omega)), Below.heap_alloc _ _ _ (by first | (simp; done) | (simp; omega)), heap_alloc_new]
  · rw [Below.heap_alloc _ _ _ (by first | (simp; done) | (simp; omega)), Below.heap_alloc _ _ _ (by first | (simp; done) | (simp; omega))]
    have := heap_alloc_new (w.alloc o1) o2
    simpa using this
  · rw [Below.heap_alloc _ _ _ (by first | (simp; done) | (simp; omega))]
    have := heap_alloc_new ((w.alloc o1).alloc o2) o3
    simpa using this
  · have := heap_alloc_new (((w.alloc o1).alloc o2).alloc o3) o4
    simpa using this
theorem two_below (w5 : World) (A B : Obj) : Below w5.heap.size w5 ((w5.alloc A).alloc B) := ((Below.refl _ _).alloc (Nat.le_refl _) _).alloc (by simp) _
theorem two_first (w5 : World) (A B : Obj) : ((w5.alloc A).alloc B).heap[w5.heap.size]? = some A := by rw [Below.heap_alloc _ _ _ (by simp), heap_alloc_new]
theorem two_belowD (w5 : World) (A B : Obj) : Below w5.heap.size w5 ((w5.alloc A).alloc B).drew := (two_below w5 A B).drew
theorem two_firstD (w5 : World) (A B : Obj) : ((w5.alloc A).alloc B).drew.heap[w5.heap.size]? = some A := two_first w5 A B
theorem has_new1 (x : World) (v : Value) (e : TypeId) {m : Nat} (hm : m = x.heap.size) : Has (x.alloc (.cells #[v] e)) 1 (.slice (some ⟨m, 0, none⟩) 1 1) 1 [v] := has_block (wp := x) (cs := [v]) (heap_alloc_new _ _) hm rfl (by decide)
theorem has_new1D (x : World) (v : Value) (e : TypeId) {m : Nat} (hm : m = x.heap.size) : Has (x.alloc (.cells #[v] e)).drew 1 (.slice (some ⟨m, 0, none⟩) 1 1) 1 [v] := has_block (wp := x) (cs := [v]) (heap_alloc_new _ _) hm rfl (by decide)
theorem beg_cell {w0 w wx w6 : World} {c : Cfg} {X : Adr} {own : Own} {a k : Nat} {vR vQ : Value} (h : PAt w0 w c X own a k vR vQ) (hx : Below w.heap.size w wx) (hg : wx.grownBy w6 vR.ownBlock) : w6.cell? ⟨X.W, 5, none⟩ = some vR ∧ w6.frozen? ⟨X.W, 5, none⟩ = false := by
  have hW := lt_of_heap h.head
  have e : w6.heap[X.W]? = some (headC c X vR vQ) := by
    rw [hg.block X.W (Nat.lt_of_lt_of_le hW hx.size) (fun e => by have := h.rt X.W e.symm; rw [h.tw] at this; simp at this), hx.block _ hW]; exact h.head
  unfold headC at e
  exact ⟨by rw [cell_of_row w6 _ _ _ _ _ e]; rfl, by simp [World.frozen?, e]⟩
theorem beg_cellQ {w0 w wx w6 : World} {c : Cfg} {X : Adr} {own : Own} {a k : Nat} {vR vQ : Value} (h : PAt w0 w c X own a k vR vQ) (hx : Below w.heap.size w wx) (hg : wx.grownBy w6 vQ.ownBlock) : w6.cell? ⟨X.W, 6, none⟩ = some vQ ∧ w6.frozen? ⟨X.W, 6, none⟩ = false := by
  have hW := lt_of_heap h.head
  have e : w6.heap[X.W]? = some (headC c X vR vQ) := by
    rw [hg.block X.W (Nat.lt_of_lt_of_le hW hx.size) (fun e => by have := h.qt X.W e.symm; rw [h.tw] at this; simp at this), hx.block _ hW]; exact h.head
  unfold headC at e
  exact ⟨by rw [cell_of_row w6 _ _ _ _ _ e]; rfl, by simp [World.frozen?, e]⟩
theorem beg_box {w0 w wx w6 : World} {c : Cfg} {X : Adr} {own : Own} {a k b i : Nat} {vR vQ v : Value} (h : PAt w0 w c X own a k vR vQ) (hx : Below w.heap.size w wx) (hg : wx.grownBy w6 vR.ownBlock) (hb : b < w0.heap.size) (hz : w.cell? ⟨b, i, none⟩ = some v) : w6.cell? ⟨b, i, none⟩ = some v := by
  have h1 := h.bw.size
  rw [World.cell?_of_block (w := w) (a := ⟨b, i, none⟩) (by
    rw [hg.block b (by have := hx.size; omega) (fun e => by have := h.new b (by rw [h.rt b e.symm]; simp); omega), hx.block _ (by omega)])]
  exact hz
theorem far1 {W : World} {b i g j : Nat} {v x : Value} (hne : b ≠ g) (h : W.cell? ⟨b, i, none⟩ = some v) : (W.setCell ⟨g, j, none⟩ x).cell? ⟨b, i, none⟩ = some v := by
  rw [World.cell?_of_block (w := W) (a := ⟨b, i, none⟩) (Below.heap_setCell _ _ _ _ (by exact hne))]; exact h
theorem PAt.top {w0 w : World} {c : Cfg} {X : Adr} {own : Own} {a k : Nat} {vR vQ : Value} (h : PAt w0 w c X own a k vR vQ) : w.cell? ⟨X.W, 5, none⟩ = some vR ∧ w.cell? ⟨X.W, 6, none⟩ = some vQ := by
  have e := h.head
  unfold headC at e
  exact ⟨by rw [cell_of_row w _ _ _ _ _ e]; rfl, by rw [cell_of_row w _ _ _ _ _ e]; rfl⟩
theorem mk_shelves (m : Nat) (h : 1 ≤ m ∧ m ≤ 3) (Y : World) : (Instr.makeSlice 100 (.int .i64 (m : Int)) (.int .i64 (m : Int))).run Tryz.prog Y = .ok (.slice (some ⟨Y.heap.size, 0, none⟩) m m) (Y.alloc (.cells (List.replicate m [Value.int .i64 0, .int .i64 0, .int .i64 0, .slice none 0 0]).flatten.toArray 106)) := by
  rcases (show m = 1 ∨ m = 2 ∨ m = 3 by omega) with rfl | rfl | rfl
  · kernel_rfl
  · kernel_rfl
  · kernel_rfl
theorem zer_ints (m : Nat) : (List.replicate m (Value.int .i64 0)) = ints (zer m) := by simp [zer, ints, List.map_const']
theorem PAt.ends {w0 w : World} {c : Cfg} {X : Adr} {own : Own} {vR vQ : Value} (h : PAt w0 w c X own c.n c.items vR vQ) (h1 : 1 ≤ c.n) (h2 : 1 ≤ c.items) :
    ∃ X', (X'.vl = X.vl ∧ X'.vm = X.vm ∧ X'.W = X.W) ∧ PAt w0 w c X' own c.n c.items (.slice (some ⟨X'.R, 0, none⟩) c.n X'.cb) (.slice (some ⟨X'.Q, 0, none⟩) c.items X'.ck) := by
  obtain ⟨gR, cR, rfl, -⟩ := owns_some h.rb (by omega)
  obtain ⟨gQ, cQ, rfl, -⟩ := owns_some h.rq (by omega)
  exact ⟨{ X with R := gR, cb := cR, Q := gQ, ck := cQ }, ⟨rfl, rfl, rfl⟩, h.lt, h.new, h.bw, h.tw, h.head, h.rb, h.rt, h.rq, h.qt, h.p.adr (fun _ _ => rfl) (fun _ _ => rfl) (fun _ _ => rfl) (fun _ _ => rfl) (fun _ _ => rfl) (fun _ _ => rfl) rfl rfl rfl⟩
set_option maxRecDepth 100000 in
set_option maxHeartbeats 16000000 in
theorem cBegun {w : World} {c : Cfg} {vl vm : Value} (hc : c.Ok) (hcfg : CfgAt w c vl vm) (hl : InF (fun b => b < w.heap.size) vl) (hm : InF (fun b => b < w.heap.size) vm) (ho : OrdVar w) (h0 : 0 < w.heap.size) :
    Calls Tryz.prog 44 #[.agg (c.cells vl vm)] w fun e w' => ∃ X own, e = .returned (.pointer (some ⟨X.W, 0, none⟩)) ∧ WAt w' c X own 0 (wld0 c) ∧ (∀ b, b < w.heap.size → own b = none) ∧ Below w.heap.size w w' := by
  have hbx := cfg_box w c vl vm
  obtain ⟨x0, x1, x2, x3, x4⟩ := cfg_at (heap_alloc_new w (.cells (c.cells vl vm) 25))
  have HCF := Lib.hid (hcfg.on hbx)
  have HB := Lib.hid hbx
  have HC := Lib.hid hc
  have hs0 : (w.alloc (.cells (c.cells vl vm) 25)).heap.size = w.heap.size + 1 := by simp
  have HLM : Hid ((InF (fun b => b < (w.alloc (.cells (c.cells vl vm) 25)).heap.size) vl ∧ InF (fun b => b < (w.alloc (.cells (c.cells vl vm) 25)).heap.size) vm) ∧ OrdVar (w.alloc (.cells (c.cells vl vm) 25))) :=
    ⟨⟨hl.mono fun b hb => by rw [hs0]; exact Nat.lt_succ_of_lt hb, hm.mono fun b hb => by rw [hs0]; exact Nat.lt_succ_of_lt hb⟩, ho.kept (hbx.block 0 h0)⟩
  have hn := hc.n
  have hit := hc.items
  have hitc : c.items = c.minted.length := rfl
  have hln := hc.len
  obtain ⟨_, la, cl, rfl, hcl1, hcl2, _⟩ := hcfg.hl
  obtain ⟨_, ma, cm, rfl, hcm1, hcm2, _⟩ := hcfg.hm
  unfold maxLen at hcl2 hcm2
  rw [← hitc] at hit
  unfold Cfg.cells at *
  rw [← hitc] at *
  clear hc hcfg hl hm ho hbx
  go_enter Tryz.func44, Tryz.ntmps44
  go_upto_region 1 with (fail)
  generalize (w.alloc (.cells #[.int .i64 c.n, .slice la c.labs.length cl, .int .i64 c.ticks, .slice ma c.items cm, .int .i64 c.cap] 25)) = W1 at *
  have hp0 : 0 < W1.heap.size := by omega
  have HS0 := Lib.hid hs0
  clear hs0
  have hmap : ∀ Y : World, (Instr.makeMap 93 none).run Tryz.prog Y = .ok (.map (some Y.heap.size)) (Y.alloc (.map #[] 0)) := fun _ => by kernel_rfl
  go_cut [3] (fun v wx => ∃ X own, v = .pointer (some ⟨X.W, 0, none⟩) ∧ (X.vl = .slice la c.labs.length cl ∧ X.vm = .slice ma c.items cm) ∧ Hid (PAt W1 wx c X own 0 0 (.slice none 0 0) (.slice none 0 0)))
  case first =>
    have CN : Hid (∀ Y : World, _) := fun Y => cNew Y
    have l1 := World.block_lt_of_cell? W1 _ x0
    go_region_law (go_simp; go_at_call 51; refine (CN.out _).mono ?_; rintro e w5 ⟨S, B, rfl, hO, hb5⟩; have Hi := Lib.hid (begun_i c (.slice la c.labs.length cl) (.slice ma c.items cm) (W1 := W1) (by repeat (first | exact Below.refl _ _ | refine Below.drew ?_ | refine Below.alloc ?_ (by first | (simp; done) | (simp; omega)) _ | refine Below.setCell ?_ (by first | (simp; done) | (simp; omega)) _)) hb5 hO); (try (have Hii := Lib.hid (begun_ii c (.slice la c.labs.length cl) (.slice ma c.items cm) (W1 := W1) (L := W1.heap.size) (by repeat (first | exact Below.refl _ _ | refine Below.drew ?_ | refine Below.alloc ?_ (by first | (simp; done) | (simp; omega)) _ | refine Below.setCell ?_ (by first | (simp; done) | (simp; omega)) _)) (by exact (LostMap.made W1).kept rfl) (Nat.le_refl _) hb5 hO))); have hB5 : Below W1.heap.size W1 w5 := Below.trans (by repeat (first | exact Below.refl _ _ | refine Below.drew ?_ | refine Below.alloc ?_ (by first | (simp; done) | (simp; omega)) _ | refine Below.setCell ?_ (by first | (simp; done) | (simp; omega)) _)) (hb5.mono (Below.size (B := W1.heap.size) (by repeat (first | exact Below.refl _ _ | refine Below.drew ?_ | refine Below.alloc ?_ (by first | (simp; done) | (simp; omega)) _ | refine Below.setCell ?_ (by first | (simp; done) | (simp; omega)) _)))); have y0 := cell_on hB5 x0; have y1 := cell_on hB5 x1; have y2 := cell_on hB5 x2; have y3 := cell_on hB5 x3; have y4 := cell_on hB5 x4; have l5 := World.block_lt_of_cell? w5 _ y0; clear hO hb5 hB5)
    all_goals
      go_wp2_with fail
      go_meet
      first
      | (obtain ⟨X, own, hX, hP⟩ := Hi.out; refine ⟨X, own, ?_, ⟨hX.1, hX.2.1⟩, hP⟩; rw [hX.2.2.1]; first | rfl | (simp; done))
      | (obtain ⟨X, own, hX, hP⟩ := Hii.out; refine ⟨X, own, ?_, ⟨hX.1, hX.2.1⟩, hP⟩; rw [hX.2.2.1])
      | trace_state
  case rest =>
  obtain ⟨X0, own0, rfl, hXv, HP⟩ := hcut
  have XC := Lib.hid (⟨x0, x1, x2, x3, x4⟩ : _ ∧ _ ∧ _ ∧ _ ∧ _)
  obtain ⟨Wb, hWb⟩ : ∃ y, y = X0.W := ⟨_, rfl⟩
  have HX0 : Hid (X0.vl = .slice la c.labs.length cl ∧ X0.vm = .slice ma c.items cm ∧ X0.W = Wb) := ⟨hXv.1, hXv.2, hWb.symm⟩
  rw [← hWb]
  have mkS := mk_shelves c.items hit
  have mkI : ∀ Y : World, (Instr.makeSlice 22 (.int .i64 (c.items : Int)) (.int .i64 (c.items : Int))).run Tryz.prog Y = .ok (.slice (some ⟨Y.heap.size, 0, none⟩) c.items c.items) (Y.alloc (.cells (List.replicate c.items (Value.int .i64 0)).toArray 3)) := fun Y => run_mk infoInt Tryz.underlying22 rfl Y c.items (by omega) (by omega)
  have mkT : ∀ Y : World, (Instr.makeSlice 101 (.int .i64 (c.labs.length : Int)) (.int .i64 (c.labs.length : Int))).run Tryz.prog Y = .ok (.slice (some ⟨Y.heap.size, 0, none⟩) c.labs.length c.labs.length) (Y.alloc (.cells (List.replicate c.labs.length (Value.slice none 0 0)).toArray 43)) := fun Y => run_mk infoEnts Tryz.underlying101 rfl Y c.labs.length (by omega) (by omega)
  rw [zer_ints] at mkI
  generalize hAS : (List.replicate c.items [Value.int .i64 0, .int .i64 0, .int .i64 0, .slice none 0 0]).flatten.toArray = AS at mkS
  generalize hAI : (ints (zer c.items)).toArray = AI at mkI
  generalize hAT : (List.replicate c.labs.length (Value.slice none 0 0)).toArray = AT at mkT
  have HA := Lib.hid (⟨hAS.symm, hAI.symm, hAT.symm⟩ : AS = _ ∧ AI = _ ∧ AT = _)
  have y0 := cell_on HP.out.bw x0
  clear hXv hWb hAS hAI hAT x0 x1 x2 x3 x4 hmap
  go_upto_region 3 with (fail)
  clear y0
  go_loopw [4, 15] (fun _ j wq => ∃ (a : Nat) (X : Adr) (own' : Own) (vR : Value), a ≤ c.n ∧ j = .int .i64 a ∧ Hid (X.vl = .slice la c.labs.length cl ∧ X.vm = .slice ma c.items cm ∧ X.W = Wb) ∧ Hid (PAt W1 wq c X own' a 0 vR (.slice none 0 0))) (fun _ j _ => c.n - (intOf j).toNat)
  case atStart => exact ⟨0, X0, own0, _, by omega, rfl, HX0, HP⟩
  case round =>
    clear HP HX0
    obtain ⟨a, X, own1, vR, ha, rfl, HX, HP⟩ := hrel
    by_cases hlt : a < c.n
    · have hltz : (a : Int) < (c.n : Int) := by omega
      obtain ⟨ra, rc, rfl⟩ := owns_slice HP.out.rb
      have y1 := cell_on HP.out.bw XC.out.2.1
      have y3 := cell_on HP.out.bw XC.out.2.2.2.1
      have g5 := HP.out.top.1
      rw [HX.out.2.2] at g5
      have HROW := Lib.hid HP.out.rb
      have HLT := Lib.hid hlt
      go_upto_region 5 with (fail)
      clear y3
      have l1 := World.block_lt_of_cell? wr _ y1
      have l2 := World.block_lt_of_cell? wr _ g5
      have hwl : w.heap.size < W1.heap.size := by rw [HS0.out]; exact Nat.lt_succ_self _
      have hwne : w.heap.size ≠ Wb := by have h1 := HP.out.new X.W (by rw [HP.out.tw]; simp); rw [HX.out.2.2] at h1; omega
      simp only at l1 l2
      have HL1 := Lib.hid l1
      clear l1
      have nW0 : Wb ≠ wr.heap.size := by omega
      have mW0 : Wb < wr.heap.size := by omega
      have nW1 : Wb ≠ wr.heap.size + 1 := by omega
      have mW1 : Wb < wr.heap.size + 1 := by omega
      have nW2 : Wb ≠ wr.heap.size + 1 + 1 := by omega
      have mW2 : Wb < wr.heap.size + 1 + 1 := by omega
      have nW3 : Wb ≠ wr.heap.size + 1 + 1 + 1 := by omega
      have mW3 : Wb < wr.heap.size + 1 + 1 + 1 := by omega
      have nW4 : Wb ≠ wr.heap.size + 1 + 1 + 1 + 1 := by omega
      have mW4 : Wb < wr.heap.size + 1 + 1 + 1 + 1 := by omega
      have nW5 : Wb ≠ wr.heap.size + 1 + 1 + 1 + 1 + 1 := by omega
      have mW5 : Wb < wr.heap.size + 1 + 1 + 1 + 1 + 1 := by omega
      have ha5 : a + 1 ≤ 5 := by omega
      have HHL := Lib.hid hwl
      have HNE := Lib.hid hwne
      have HLN := Lib.hid hln
      have HHN := Lib.hid hn
      have HIT := Lib.hid hit
      have HCL := Lib.hid (⟨hcl1, hcl2, hcm1, hcm2⟩ : _ ∧ _ ∧ _ ∧ _)
      clear hwl hwne hcl1 hcl2 hcm1 hcm2 hlt ha hltz hp0
      clear hn hit hln
      refine wp_region_noPanic ?_
      refine wp_region_late (by kernel_rfl) (fun Z => Z.cell? ⟨w.heap.size, 1, none⟩ = some (.slice la c.labs.length cl)) (fun Z => Z.cell? ⟨Wb, 5, none⟩ = some (.slice ra a rc)) 18 ?_ ?_ (fun hHeld => ?_)
      · exact cell_on (by repeat (first | exact Below.refl _ _ | refine Below.drew ?_ | refine Below.alloc ?_ (by first | (simp; done) | (simp; omega)) _ | refine Below.setCell ?_ (by first | (simp; done) | (simp; omega)) _)) y1
      · exact cell_on (by repeat (first | exact Below.refl _ _ | refine Below.drew ?_ | refine Below.alloc ?_ (by first | (simp; done) | (simp; omega)) _ | refine Below.setCell ?_ (by first | (simp; done) | (simp; omega)) _)) g5
      refine wpAnyL_listed (l' := #[false, false, false, false, false, false, false, false, false, false, false, false, false, false, false, false, false, false, false, false, false, false]) (by kernel_rfl) ?_
      replace hHeld := heldAt_listed (l' := #[false, false, false, false, false, false, false, false, false, false, false, false, false, false, false, false, false, false, false, false, false, false]) (by kernel_rfl) hHeld
      refine wpAnyL_takeT (i := 0) (v := ?_) (by rfl) (by kernel_rfl) (by kernel_rfl) (by kernel_rfl) (by rfl) (fun _ _ _ h => h) (Or.inl ⟨by rfl, ?_⟩) hHeld (fun hHeld2 => ?_)
      rotate_left
      · (intro w hSw; (try dsimp only at hSw); go_simp; try (with_reducible rfl))
      try simp only [Act.put, List.setIfInBounds_toArray, List.set_cons_zero, List.set_cons_succ]
      clear hHeld
      have hHeld := hHeld2
      clear hHeld2
      refine wpAnyL_listed (l' := #[true, false, false, false, false, false, false, false, false, false, false, false, false, false, false, false, false, false, false, false, false, false]) (by kernel_rfl) ?_
      replace hHeld := heldAt_listed (l' := #[true, false, false, false, false, false, false, false, false, false, false, false, false, false, false, false, false, false, false, false, false, false]) (by kernel_rfl) hHeld
      refine wpAnyL_takeT (i := 1) (v := ?_) (by rfl) (by kernel_rfl) (by kernel_rfl) (by kernel_rfl) (by rfl) (fun _ _ _ h => h) (Or.inl ⟨by rfl, ?_⟩) hHeld (fun hHeld2 => ?_)
      rotate_left
      · (intro w hSw; (try dsimp only at hSw); go_simp; try (with_reducible rfl))
      try simp only [Act.put, List.setIfInBounds_toArray, List.set_cons_zero, List.set_cons_succ]
      clear hHeld
      have hHeld := hHeld2
      clear hHeld2
      refine wpAnyL_listed (l' := #[true, true, false, false, false, false, false, false, false, false, false, false, false, false, false, false, false, false, false, false, false, false]) (by kernel_rfl) ?_
      replace hHeld := heldAt_listed (l' := #[true, true, false, false, false, false, false, false, false, false, false, false, false, false, false, false, false, false, false, false, false, false]) (by kernel_rfl) hHeld
      refine wpAnyL_takeT (i := 2) (v := ?_) (by rfl) (by kernel_rfl) (by kernel_rfl) (by kernel_rfl) (by rfl) (fun _ _ _ h => h) (Or.inl ⟨by rfl, ?_⟩) hHeld (fun hHeld2 => ?_)
      rotate_left
      · (intro w hSw; (try dsimp only at hSw); go_simp; try (with_reducible rfl))
      try simp only [Act.put, List.setIfInBounds_toArray, List.set_cons_zero, List.set_cons_succ]
      clear hHeld
      have hHeld := hHeld2
      clear hHeld2
      refine wpAnyL_listed (l' := #[true, true, true, false, false, false, false, false, false, false, false, false, false, false, false, false, false, false, false, false, false, false]) (by kernel_rfl) ?_
      replace hHeld := heldAt_listed (l' := #[true, true, true, false, false, false, false, false, false, false, false, false, false, false, false, false, false, false, false, false, false, false]) (by kernel_rfl) hHeld
      refine wpAnyL_takeT (i := 3) (v := ?_) (by rfl) (by kernel_rfl) (by kernel_rfl) (by kernel_rfl) (by rfl) (fun _ _ _ h => h) (Or.inl ⟨by rfl, ?_⟩) hHeld (fun hHeld2 => ?_)
      rotate_left
      · (intro w hSw; (try dsimp only at hSw); go_simp; try (with_reducible rfl))
      try simp only [Act.put, List.setIfInBounds_toArray, List.set_cons_zero, List.set_cons_succ]
      clear hHeld
      have hHeld := hHeld2
      clear hHeld2
      refine wpAnyL_listed (l' := #[true, true, true, true, false, false, false, false, false, false, false, false, false, false, false, false, false, false, false, false, false, false]) (by kernel_rfl) ?_
      replace hHeld := heldAt_listed (l' := #[true, true, true, true, false, false, false, false, false, false, false, false, false, false, false, false, false, false, false, false, false, false]) (by kernel_rfl) hHeld
      refine wpAnyL_takeU (i := 4) (v := ?_) (by rfl) (by kernel_rfl) (by kernel_rfl) (by kernel_rfl) (by rfl) (by kernel_rfl) (by rfl) (fun _ _ _ h => h) (Or.inl ⟨by rfl, ?_⟩) hHeld (fun hHeld2 => ?_)
      rotate_left
      · (intro w hSw; (try dsimp only at hSw); obtain ⟨hSw, hSw2⟩ := hSw; go_simp; try (with_reducible rfl))
      try simp only [Act.put, List.setIfInBounds_toArray, List.set_cons_zero, List.set_cons_succ]
      clear hHeld
      have hHeld := hHeld2
      clear hHeld2
      refine wpAnyL_listed (l' := #[true, true, true, true, true, false, false, false, false, false, false, false, false, false, false, false, false, false, false, false, false, false]) (by kernel_rfl) ?_
      replace hHeld := heldAt_listed (l' := #[true, true, true, true, true, false, false, false, false, false, false, false, false, false, false, false, false, false, false, false, false, false]) (by kernel_rfl) hHeld
      refine wpAnyL_takeT (i := 5) (v := ?_) (by rfl) (by kernel_rfl) (by kernel_rfl) (by kernel_rfl) (by rfl) (fun _ _ _ h => h) (Or.inl ⟨by rfl, ?_⟩) hHeld (fun hHeld2 => ?_)
      rotate_left
      · (intro w hSw; (try dsimp only at hSw); go_simp; try (with_reducible rfl))
      try simp only [Act.put, List.setIfInBounds_toArray, List.set_cons_zero, List.set_cons_succ]
      clear hHeld
      have hHeld := hHeld2
      clear hHeld2
      refine wpAnyL_listed (l' := #[true, true, true, true, true, true, false, false, false, false, false, false, false, false, false, false, false, false, false, false, false, false]) (by kernel_rfl) ?_
      replace hHeld := heldAt_listed (l' := #[true, true, true, true, true, true, false, false, false, false, false, false, false, false, false, false, false, false, false, false, false, false]) (by kernel_rfl) hHeld
      refine wpAnyL_takeT (i := 7) (v := ?_) (by rfl) (by kernel_rfl) (by kernel_rfl) (by kernel_rfl) (by rfl) (fun _ _ _ h => h) (Or.inl ⟨by rfl, ?_⟩) hHeld (fun hHeld2 => ?_)
      rotate_left
      · (intro w hSw; (try dsimp only at hSw); go_simp; try (with_reducible rfl))
      try simp only [Act.put, List.setIfInBounds_toArray, List.set_cons_zero, List.set_cons_succ]
      clear hHeld
      have hHeld := hHeld2
      clear hHeld2
      refine wpAnyL_listed (l' := #[true, true, true, true, true, true, false, true, false, false, false, false, false, false, false, false, false, false, false, false, false, false]) (by kernel_rfl) ?_
      replace hHeld := heldAt_listed (l' := #[true, true, true, true, true, true, false, true, false, false, false, false, false, false, false, false, false, false, false, false, false, false]) (by kernel_rfl) hHeld
      refine wpAnyL_takeT (i := 9) (v := ?_) (by rfl) (by kernel_rfl) (by kernel_rfl) (by kernel_rfl) (by rfl) (fun _ _ _ h => h) (Or.inl ⟨by rfl, ?_⟩) hHeld (fun hHeld2 => ?_)
      rotate_left
      · (intro w hSw; (try dsimp only at hSw); go_simp; try (with_reducible rfl))
      try simp only [Act.put, List.setIfInBounds_toArray, List.set_cons_zero, List.set_cons_succ]
      clear hHeld
      have hHeld := hHeld2
      clear hHeld2
      refine wpAnyL_listed (l' := #[true, true, true, true, true, true, false, true, false, true, false, false, false, false, false, false, false, false, false, false, false, false]) (by kernel_rfl) ?_
      replace hHeld := heldAt_listed (l' := #[true, true, true, true, true, true, false, true, false, true, false, false, false, false, false, false, false, false, false, false, false, false]) (by kernel_rfl) hHeld
      refine wpAnyL_takeT (i := 11) (v := ?_) (by rfl) (by kernel_rfl) (by kernel_rfl) (by kernel_rfl) (by rfl) (fun _ _ _ h => h) (Or.inl ⟨by rfl, ?_⟩) hHeld (fun hHeld2 => ?_)
      rotate_left
      · (intro w hSw; (try dsimp only at hSw); go_simp; try (with_reducible rfl))
      try simp only [Act.put, List.setIfInBounds_toArray, List.set_cons_zero, List.set_cons_succ]
      clear hHeld
      have hHeld := hHeld2
      clear hHeld2
      refine wpAnyL_listed (l' := #[true, true, true, true, true, true, false, true, false, true, false, true, false, false, false, false, false, false, false, false, false, false]) (by kernel_rfl) ?_
      replace hHeld := heldAt_listed (l' := #[true, true, true, true, true, true, false, true, false, true, false, true, false, false, false, false, false, false, false, false, false, false]) (by kernel_rfl) hHeld
      refine wpAnyL_takeT (i := 12) (v := ?_) (by rfl) (by kernel_rfl) (by kernel_rfl) (by kernel_rfl) (by rfl) (fun _ _ _ h => h) (Or.inl ⟨by rfl, ?_⟩) hHeld (fun hHeld2 => ?_)
      rotate_left
      · (intro w hSw; (try dsimp only at hSw); go_simp; try (with_reducible rfl))
      try simp only [Act.put, List.setIfInBounds_toArray, List.set_cons_zero, List.set_cons_succ]
      clear hHeld
      have hHeld := hHeld2
      clear hHeld2
      refine wpAnyL_listed (l' := #[true, true, true, true, true, true, false, true, false, true, false, true, true, false, false, false, false, false, false, false, false, false]) (by kernel_rfl) ?_
      replace hHeld := heldAt_listed (l' := #[true, true, true, true, true, true, false, true, false, true, false, true, true, false, false, false, false, false, false, false, false, false]) (by kernel_rfl) hHeld
      refine wpAnyL_takeT (i := 13) (v := ?_) (by rfl) (by kernel_rfl) (by kernel_rfl) (by kernel_rfl) (by rfl) (fun _ _ _ h => h) (Or.inl ⟨by rfl, ?_⟩) hHeld (fun hHeld2 => ?_)
      rotate_left
      · (intro w hSw; (try dsimp only at hSw); go_simp; try (with_reducible rfl))
      try simp only [Act.put, List.setIfInBounds_toArray, List.set_cons_zero, List.set_cons_succ]
      clear hHeld
      have hHeld := hHeld2
      clear hHeld2
      refine wpAnyL_listed (l' := #[true, true, true, true, true, true, false, true, false, true, false, true, true, true, false, false, false, false, false, false, false, false]) (by kernel_rfl) ?_
      replace hHeld := heldAt_listed (l' := #[true, true, true, true, true, true, false, true, false, true, false, true, true, true, false, false, false, false, false, false, false, false]) (by kernel_rfl) hHeld
      revert hHeld
      apply joinT2
      · intro TT hHeld
        refine wpAnyL_ready (rs := [6, 8, 10, 14]) (by kernel_rfl) (by simp) ?_
        refine AllReadyL.cons (by rfl) (fun K hK => ?_) ?_
        · go_simp
          refine hK.out _ _ (held_alloc hHeld (by rfl)) (fun hHeld2 => ?_)
          clear hK K hHeld
          try simp only [Act.put, List.setIfInBounds_toArray, List.set_cons_zero, List.set_cons_succ]
          have hHeld := hHeld2
          clear hHeld2
          refine wpAnyL_listed (l' := #[true, true, true, true, true, true, true, true, false, true, false, true, true, true, false, false, false, false, false, false, false, false]) (by kernel_rfl) ?_
          replace hHeld := heldAt_listed (l' := #[true, true, true, true, true, true, true, true, false, true, false, true, true, true, false, false, false, false, false, false, false, false]) (by kernel_rfl) hHeld
          refine wpAnyL_ready (rs := [8, 10, 14]) (by kernel_rfl) (by simp) ?_
          refine AllReadyL.cons (by rfl) (fun K hK => ?_) ?_
          · go_simp
            refine hK.out _ _ (held_alloc hHeld (by rfl)) (fun hHeld2 => ?_)
            clear hK K hHeld
            try simp only [Act.put, List.setIfInBounds_toArray, List.set_cons_zero, List.set_cons_succ]
            have hHeld := hHeld2
            clear hHeld2
            refine wpAnyL_listed (l' := #[true, true, true, true, true, true, true, true, true, true, false, true, true, true, false, false, false, false, false, false, false, false]) (by kernel_rfl) ?_
            replace hHeld := heldAt_listed (l' := #[true, true, true, true, true, true, true, true, true, true, false, true, true, true, false, false, false, false, false, false, false, false]) (by kernel_rfl) hHeld
            refine wpAnyL_ready (rs := [10, 14]) (by kernel_rfl) (by simp) ?_
            refine AllReadyL.cons (by rfl) (fun K hK => ?_) ?_
            · go_simp
              refine hK.out _ _ (held_alloc hHeld (by rfl)) (fun hHeld2 => ?_)
              clear hK K hHeld
              try simp only [Act.put, List.setIfInBounds_toArray, List.set_cons_zero, List.set_cons_succ]
              have hHeld := hHeld2
              clear hHeld2
              refine wpAnyL_listed (l' := #[true, true, true, true, true, true, true, true, true, true, true, true, true, true, false, false, false, false, false, false, false, false]) (by kernel_rfl) ?_
              replace hHeld := heldAt_listed (l' := #[true, true, true, true, true, true, true, true, true, true, true, true, true, true, false, false, false, false, false, false, false, false]) (by kernel_rfl) hHeld
              refine wpAnyL_ready (rs := [14]) (by kernel_rfl) (by simp) ?_
              refine AllReadyL.cons (by rfl) (fun K hK => ?_) ?_
              · go_simp
                refine hK.out _ _ (held_alloc hHeld (by rfl)) (fun hHeld2 => ?_)
                clear hK K hHeld
                try simp only [Act.put, List.setIfInBounds_toArray, List.set_cons_zero, List.set_cons_succ]
                have hHeld := hHeld2
                clear hHeld2
                refine wpAnyL_listed (l' := #[true, true, true, true, true, true, true, true, true, true, true, true, true, true, true, false, false, false, false, false, false, false]) (by kernel_rfl) ?_
                replace hHeld := heldAt_listed (l' := #[true, true, true, true, true, true, true, true, true, true, true, true, true, true, true, false, false, false, false, false, false, false]) (by kernel_rfl) hHeld
                have hF := four_heap wr (.cells AS 106) (.cells AI 3) (.cells AI 3) (.cells AT 43)
                have HF : Four wr ((((wr.alloc (.cells AS 106)).alloc (.cells AI 3)).alloc (.cells AI 3)).alloc (.cells AT 43)).drew AS AI AT (wr.heap.size) (wr.heap.size + 1) (wr.heap.size + 1 + 1) (wr.heap.size + 1 + 1 + 1) := ⟨hF.1, hF.2.1, hF.2.2.1, hF.2.2.2.1, ⟨by omega, by omega, by omega, by omega⟩, ⟨by omega, by omega, by omega, by omega, by omega, by omega⟩, hF.2.2.2.2.2.drew⟩
                clear hF
                generalize ((((wr.alloc (.cells AS 106)).alloc (.cells AI 3)).alloc (.cells AI 3)).alloc (.cells AT 43)).drew = w4 at hHeld HF ⊢
                generalize hbb3 : wr.heap.size + 1 + 1 + 1 = bT at HF ⊢
                clear hbb3
                generalize hbb2 : wr.heap.size + 1 + 1 = bG at HF ⊢
                clear hbb2
                generalize hbb1 : wr.heap.size + 1 = bA at HF ⊢
                clear hbb1
                generalize hbb0 : wr.heap.size = bS at HF ⊢
                clear hbb0
                revert hHeld HF
                revert w4 bS bA bG bT
                exact TT.out
              exact AllReadyL.nil
            refine AllReadyL.cons (by rfl) (fun K hK => ?_) ?_
            · go_simp
              refine hK.out _ _ (held_alloc hHeld (by rfl)) (fun hHeld2 => ?_)
              clear hK K hHeld
              try simp only [Act.put, List.setIfInBounds_toArray, List.set_cons_zero, List.set_cons_succ]
              have hHeld := hHeld2
              clear hHeld2
              refine wpAnyL_listed (l' := #[true, true, true, true, true, true, true, true, true, true, false, true, true, true, true, false, false, false, false, false, false, false]) (by kernel_rfl) ?_
              replace hHeld := heldAt_listed (l' := #[true, true, true, true, true, true, true, true, true, true, false, true, true, true, true, false, false, false, false, false, false, false]) (by kernel_rfl) hHeld
              refine wpAnyL_ready (rs := [10]) (by kernel_rfl) (by simp) ?_
              refine AllReadyL.cons (by rfl) (fun K hK => ?_) ?_
              · go_simp
                refine hK.out _ _ (held_alloc hHeld (by rfl)) (fun hHeld2 => ?_)
                clear hK K hHeld
                try simp only [Act.put, List.setIfInBounds_toArray, List.set_cons_zero, List.set_cons_succ]
                have hHeld := hHeld2
                clear hHeld2
                refine wpAnyL_listed (l' := #[true, true, true, true, true, true, true, true, true, true, true, true, true, true, true, false, false, false, false, false, false, false]) (by kernel_rfl) ?_
                replace hHeld := heldAt_listed (l' := #[true, true, true, true, true, true, true, true, true, true, true, true, true, true, true, false, false, false, false, false, false, false]) (by kernel_rfl) hHeld
                have hF := four_heap wr (.cells AS 106) (.cells AI 3) (.cells AT 43) (.cells AI 3)
                have HF : Four wr ((((wr.alloc (.cells AS 106)).alloc (.cells AI 3)).alloc (.cells AT 43)).alloc (.cells AI 3)).drew AS AI AT (wr.heap.size) (wr.heap.size + 1) (wr.heap.size + 1 + 1 + 1) (wr.heap.size + 1 + 1) := ⟨hF.1, hF.2.1, hF.2.2.2.1, hF.2.2.1, ⟨by omega, by omega, by omega, by omega⟩, ⟨by omega, by omega, by omega, by omega, by omega, by omega⟩, hF.2.2.2.2.2.drew⟩
                clear hF
                exact TT.out _ _ _ _ _ hHeld HF
              exact AllReadyL.nil
            exact AllReadyL.nil
          refine AllReadyL.cons (by rfl) (fun K hK => ?_) ?_
          · go_simp
            refine hK.out _ _ (held_alloc hHeld (by rfl)) (fun hHeld2 => ?_)
            clear hK K hHeld
            try simp only [Act.put, List.setIfInBounds_toArray, List.set_cons_zero, List.set_cons_succ]
            have hHeld := hHeld2
            clear hHeld2
            refine wpAnyL_listed (l' := #[true, true, true, true, true, true, true, true, false, true, true, true, true, true, false, false, false, false, false, false, false, false]) (by kernel_rfl) ?_
            replace hHeld := heldAt_listed (l' := #[true, true, true, true, true, true, true, true, false, true, true, true, true, true, false, false, false, false, false, false, false, false]) (by kernel_rfl) hHeld
            refine wpAnyL_ready (rs := [8, 14]) (by kernel_rfl) (by simp) ?_
            refine AllReadyL.cons (by rfl) (fun K hK => ?_) ?_
            · go_simp
              refine hK.out _ _ (held_alloc hHeld (by rfl)) (fun hHeld2 => ?_)
              clear hK K hHeld
              try simp only [Act.put, List.setIfInBounds_toArray, List.set_cons_zero, List.set_cons_succ]
              have hHeld := hHeld2
              clear hHeld2
              refine wpAnyL_listed (l' := #[true, true, true, true, true, true, true, true, true, true, true, true, true, true, false, false, false, false, false, false, false, false]) (by kernel_rfl) ?_
              replace hHeld := heldAt_listed (l' := #[true, true, true, true, true, true, true, true, true, true, true, true, true, true, false, false, false, false, false, false, false, false]) (by kernel_rfl) hHeld
              refine wpAnyL_ready (rs := [14]) (by kernel_rfl) (by simp) ?_
              refine AllReadyL.cons (by rfl) (fun K hK => ?_) ?_
              · go_simp
                refine hK.out _ _ (held_alloc hHeld (by rfl)) (fun hHeld2 => ?_)
                clear hK K hHeld
                try simp only [Act.put, List.setIfInBounds_toArray, List.set_cons_zero, List.set_cons_succ]
                have hHeld := hHeld2
                clear hHeld2
                refine wpAnyL_listed (l' := #[true, true, true, true, true, true, true, true, true, true, true, true, true, true, true, false, false, false, false, false, false, false]) (by kernel_rfl) ?_
                replace hHeld := heldAt_listed (l' := #[true, true, true, true, true, true, true, true, true, true, true, true, true, true, true, false, false, false, false, false, false, false]) (by kernel_rfl) hHeld
                have hF := four_heap wr (.cells AS 106) (.cells AI 3) (.cells AI 3) (.cells AT 43)
                have HF : Four wr ((((wr.alloc (.cells AS 106)).alloc (.cells AI 3)).alloc (.cells AI 3)).alloc (.cells AT 43)).drew AS AI AT (wr.heap.size) (wr.heap.size + 1 + 1) (wr.heap.size + 1) (wr.heap.size + 1 + 1 + 1) := ⟨hF.1, hF.2.2.1, hF.2.1, hF.2.2.2.1, ⟨by omega, by omega, by omega, by omega⟩, ⟨by omega, by omega, by omega, by omega, by omega, by omega⟩, hF.2.2.2.2.2.drew⟩
                clear hF
                exact TT.out _ _ _ _ _ hHeld HF
              exact AllReadyL.nil
            refine AllReadyL.cons (by rfl) (fun K hK => ?_) ?_
            · go_simp
              refine hK.out _ _ (held_alloc hHeld (by rfl)) (fun hHeld2 => ?_)
              clear hK K hHeld
              try simp only [Act.put, List.setIfInBounds_toArray, List.set_cons_zero, List.set_cons_succ]
              have hHeld := hHeld2
              clear hHeld2
              refine wpAnyL_listed (l' := #[true, true, true, true, true, true, true, true, false, true, true, true, true, true, true, false, false, false, false, false, false, false]) (by kernel_rfl) ?_
              replace hHeld := heldAt_listed (l' := #[true, true, true, true, true, true, true, true, false, true, true, true, true, true, true, false, false, false, false, false, false, false]) (by kernel_rfl) hHeld
              refine wpAnyL_ready (rs := [8]) (by kernel_rfl) (by simp) ?_
              refine AllReadyL.cons (by rfl) (fun K hK => ?_) ?_
              · go_simp
                refine hK.out _ _ (held_alloc hHeld (by rfl)) (fun hHeld2 => ?_)
                clear hK K hHeld
                try simp only [Act.put, List.setIfInBounds_toArray, List.set_cons_zero, List.set_cons_succ]
                have hHeld := hHeld2
                clear hHeld2
                refine wpAnyL_listed (l' := #[true, true, true, true, true, true, true, true, true, true, true, true, true, true, true, false, false, false, false, false, false, false]) (by kernel_rfl) ?_
                replace hHeld := heldAt_listed (l' := #[true, true, true, true, true, true, true, true, true, true, true, true, true, true, true, false, false, false, false, false, false, false]) (by kernel_rfl) hHeld
                have hF := four_heap wr (.cells AS 106) (.cells AI 3) (.cells AT 43) (.cells AI 3)
                have HF : Four wr ((((wr.alloc (.cells AS 106)).alloc (.cells AI 3)).alloc (.cells AT 43)).alloc (.cells AI 3)).drew AS AI AT (wr.heap.size) (wr.heap.size + 1 + 1 + 1) (wr.heap.size + 1) (wr.heap.size + 1 + 1) := ⟨hF.1, hF.2.2.2.1, hF.2.1, hF.2.2.1, ⟨by omega, by omega, by omega, by omega⟩, ⟨by omega, by omega, by omega, by omega, by omega, by omega⟩, hF.2.2.2.2.2.drew⟩
                clear hF
                exact TT.out _ _ _ _ _ hHeld HF
              exact AllReadyL.nil
            exact AllReadyL.nil
          refine AllReadyL.cons (by rfl) (fun K hK => ?_) ?_
          · go_simp
            refine hK.out _ _ (held_alloc hHeld (by rfl)) (fun hHeld2 => ?_)
            clear hK K hHeld
            try simp only [Act.put, List.setIfInBounds_toArray, List.set_cons_zero, List.set_cons_succ]
            have hHeld := hHeld2
            clear hHeld2
            refine wpAnyL_listed (l' := #[true, true, true, true, true, true, true, true, false, true, false, true, true, true, true, false, false, false, false, false, false, false]) (by kernel_rfl) ?_
            replace hHeld := heldAt_listed (l' := #[true, true, true, true, true, true, true, true, false, true, false, true, true, true, true, false, false, false, false, false, false, false]) (by kernel_rfl) hHeld
            refine wpAnyL_ready (rs := [8, 10]) (by kernel_rfl) (by simp) ?_
            refine AllReadyL.cons (by rfl) (fun K hK => ?_) ?_
            · go_simp
              refine hK.out _ _ (held_alloc hHeld (by rfl)) (fun hHeld2 => ?_)
              clear hK K hHeld
              try simp only [Act.put, List.setIfInBounds_toArray, List.set_cons_zero, List.set_cons_succ]
              have hHeld := hHeld2
              clear hHeld2
              refine wpAnyL_listed (l' := #[true, true, true, true, true, true, true, true, true, true, false, true, true, true, true, false, false, false, false, false, false, false]) (by kernel_rfl) ?_
              replace hHeld := heldAt_listed (l' := #[true, true, true, true, true, true, true, true, true, true, false, true, true, true, true, false, false, false, false, false, false, false]) (by kernel_rfl) hHeld
              refine wpAnyL_ready (rs := [10]) (by kernel_rfl) (by simp) ?_
              refine AllReadyL.cons (by rfl) (fun K hK => ?_) ?_
              · go_simp
                refine hK.out _ _ (held_alloc hHeld (by rfl)) (fun hHeld2 => ?_)
                clear hK K hHeld
                try simp only [Act.put, List.setIfInBounds_toArray, List.set_cons_zero, List.set_cons_succ]
                have hHeld := hHeld2
                clear hHeld2
                refine wpAnyL_listed (l' := #[true, true, true, true, true, true, true, true, true, true, true, true, true, true, true, false, false, false, false, false, false, false]) (by kernel_rfl) ?_
                replace hHeld := heldAt_listed (l' := #[true, true, true, true, true, true, true, true, true, true, true, true, true, true, true, false, false, false, false, false, false, false]) (by kernel_rfl) hHeld
                have hF := four_heap wr (.cells AS 106) (.cells AT 43) (.cells AI 3) (.cells AI 3)
                have HF : Four wr ((((wr.alloc (.cells AS 106)).alloc (.cells AT 43)).alloc (.cells AI 3)).alloc (.cells AI 3)).drew AS AI AT (wr.heap.size) (wr.heap.size + 1 + 1) (wr.heap.size + 1 + 1 + 1) (wr.heap.size + 1) := ⟨hF.1, hF.2.2.1, hF.2.2.2.1, hF.2.1, ⟨by omega, by omega, by omega, by omega⟩, ⟨by omega, by omega, by omega, by omega, by omega, by omega⟩, hF.2.2.2.2.2.drew⟩
                clear hF
                exact TT.out _ _ _ _ _ hHeld HF
              exact AllReadyL.nil
            refine AllReadyL.cons (by rfl) (fun K hK => ?_) ?_
            · go_simp
              refine hK.out _ _ (held_alloc hHeld (by rfl)) (fun hHeld2 => ?_)
              clear hK K hHeld
              try simp only [Act.put, List.setIfInBounds_toArray, List.set_cons_zero, List.set_cons_succ]
              have hHeld := hHeld2
              clear hHeld2
              refine wpAnyL_listed (l' := #[true, true, true, true, true, true, true, true, false, true, true, true, true, true, true, false, false, false, false, false, false, false]) (by kernel_rfl) ?_
              replace hHeld := heldAt_listed (l' := #[true, true, true, true, true, true, true, true, false, true, true, true, true, true, true, false, false, false, false, false, false, false]) (by kernel_rfl) hHeld
              refine wpAnyL_ready (rs := [8]) (by kernel_rfl) (by simp) ?_
              refine AllReadyL.cons (by rfl) (fun K hK => ?_) ?_
              · go_simp
                refine hK.out _ _ (held_alloc hHeld (by rfl)) (fun hHeld2 => ?_)
                clear hK K hHeld
                try simp only [Act.put, List.setIfInBounds_toArray, List.set_cons_zero, List.set_cons_succ]
                have hHeld := hHeld2
                clear hHeld2
                refine wpAnyL_listed (l' := #[true, true, true, true, true, true, true, true, true, true, true, true, true, true, true, false, false, false, false, false, false, false]) (by kernel_rfl) ?_
                replace hHeld := heldAt_listed (l' := #[true, true, true, true, true, true, true, true, true, true, true, true, true, true, true, false, false, false, false, false, false, false]) (by kernel_rfl) hHeld
                have hF := four_heap wr (.cells AS 106) (.cells AT 43) (.cells AI 3) (.cells AI 3)
                have HF : Four wr ((((wr.alloc (.cells AS 106)).alloc (.cells AT 43)).alloc (.cells AI 3)).alloc (.cells AI 3)).drew AS AI AT (wr.heap.size) (wr.heap.size + 1 + 1 + 1) (wr.heap.size + 1 + 1) (wr.heap.size + 1) := ⟨hF.1, hF.2.2.2.1, hF.2.2.1, hF.2.1, ⟨by omega, by omega, by omega, by omega⟩, ⟨by omega, by omega, by omega, by omega, by omega, by omega⟩, hF.2.2.2.2.2.drew⟩
                clear hF
                exact TT.out _ _ _ _ _ hHeld HF
              exact AllReadyL.nil
            exact AllReadyL.nil
          exact AllReadyL.nil
        refine AllReadyL.cons (by rfl) (fun K hK => ?_) ?_
        · go_simp
          refine hK.out _ _ (held_alloc hHeld (by rfl)) (fun hHeld2 => ?_)
          clear hK K hHeld
          try simp only [Act.put, List.setIfInBounds_toArray, List.set_cons_zero, List.set_cons_succ]
          have hHeld := hHeld2
          clear hHeld2
          refine wpAnyL_listed (l' := #[true, true, true, true, true, true, false, true, true, true, false, true, true, true, false, false, false, false, false, false, false, false]) (by kernel_rfl) ?_
          replace hHeld := heldAt_listed (l' := #[true, true, true, true, true, true, false, true, true, true, false, true, true, true, false, false, false, false, false, false, false, false]) (by kernel_rfl) hHeld
          refine wpAnyL_ready (rs := [6, 10, 14]) (by kernel_rfl) (by simp) ?_
          refine AllReadyL.cons (by rfl) (fun K hK => ?_) ?_
          · go_simp
            refine hK.out _ _ (held_alloc hHeld (by rfl)) (fun hHeld2 => ?_)
            clear hK K hHeld
            try simp only [Act.put, List.setIfInBounds_toArray, List.set_cons_zero, List.set_cons_succ]
            have hHeld := hHeld2
            clear hHeld2
            refine wpAnyL_listed (l' := #[true, true, true, true, true, true, true, true, true, true, false, true, true, true, false, false, false, false, false, false, false, false]) (by kernel_rfl) ?_
            replace hHeld := heldAt_listed (l' := #[true, true, true, true, true, true, true, true, true, true, false, true, true, true, false, false, false, false, false, false, false, false]) (by kernel_rfl) hHeld
            refine wpAnyL_ready (rs := [10, 14]) (by kernel_rfl) (by simp) ?_
            refine AllReadyL.cons (by rfl) (fun K hK => ?_) ?_
            · go_simp
              refine hK.out _ _ (held_alloc hHeld (by rfl)) (fun hHeld2 => ?_)
              clear hK K hHeld
              try simp only [Act.put, List.setIfInBounds_toArray, List.set_cons_zero, List.set_cons_succ]
              have hHeld := hHeld2
              clear hHeld2
              refine wpAnyL_listed (l' := #[true, true, true, true, true, true, true, true, true, true, true, true, true, true, false, false, false, false, false, false, false, false]) (by kernel_rfl) ?_
              replace hHeld := heldAt_listed (l' := #[true, true, true, true, true, true, true, true, true, true, true, true, true, true, false, false, false, false, false, false, false, false]) (by kernel_rfl) hHeld
              refine wpAnyL_ready (rs := [14]) (by kernel_rfl) (by simp) ?_
              refine AllReadyL.cons (by rfl) (fun K hK => ?_) ?_
              · go_simp
                refine hK.out _ _ (held_alloc hHeld (by rfl)) (fun hHeld2 => ?_)
                clear hK K hHeld
                try simp only [Act.put, List.setIfInBounds_toArray, List.set_cons_zero, List.set_cons_succ]
                have hHeld := hHeld2
                clear hHeld2
                refine wpAnyL_listed (l' := #[true, true, true, true, true, true, true, true, true, true, true, true, true, true, true, false, false, false, false, false, false, false]) (by kernel_rfl) ?_
                replace hHeld := heldAt_listed (l' := #[true, true, true, true, true, true, true, true, true, true, true, true, true, true, true, false, false, false, false, false, false, false]) (by kernel_rfl) hHeld
                have hF := four_heap wr (.cells AI 3) (.cells AS 106) (.cells AI 3) (.cells AT 43)
                have HF : Four wr ((((wr.alloc (.cells AI 3)).alloc (.cells AS 106)).alloc (.cells AI 3)).alloc (.cells AT 43)).drew AS AI AT (wr.heap.size + 1) (wr.heap.size) (wr.heap.size + 1 + 1) (wr.heap.size + 1 + 1 + 1) := ⟨hF.2.1, hF.1, hF.2.2.1, hF.2.2.2.1, ⟨by omega, by omega, by omega, by omega⟩, ⟨by omega, by omega, by omega, by omega, by omega, by omega⟩, hF.2.2.2.2.2.drew⟩
                clear hF
                exact TT.out _ _ _ _ _ hHeld HF
              exact AllReadyL.nil
            refine AllReadyL.cons (by rfl) (fun K hK => ?_) ?_
            · go_simp
              refine hK.out _ _ (held_alloc hHeld (by rfl)) (fun hHeld2 => ?_)
              clear hK K hHeld
              try simp only [Act.put, List.setIfInBounds_toArray, List.set_cons_zero, List.set_cons_succ]
              have hHeld := hHeld2
              clear hHeld2
              refine wpAnyL_listed (l' := #[true, true, true, true, true, true, true, true, true, true, false, true, true, true, true, false, false, false, false, false, false, false]) (by kernel_rfl) ?_
              replace hHeld := heldAt_listed (l' := #[true, true, true, true, true, true, true, true, true, true, false, true, true, true, true, false, false, false, false, false, false, false]) (by kernel_rfl) hHeld
              refine wpAnyL_ready (rs := [10]) (by kernel_rfl) (by simp) ?_
              refine AllReadyL.cons (by rfl) (fun K hK => ?_) ?_
              · go_simp
                refine hK.out _ _ (held_alloc hHeld (by rfl)) (fun hHeld2 => ?_)
                clear hK K hHeld
                try simp only [Act.put, List.setIfInBounds_toArray, List.set_cons_zero, List.set_cons_succ]
                have hHeld := hHeld2
                clear hHeld2
                refine wpAnyL_listed (l' := #[true, true, true, true, true, true, true, true, true, true, true, true, true, true, true, false, false, false, false, false, false, false]) (by kernel_rfl) ?_
                replace hHeld := heldAt_listed (l' := #[true, true, true, true, true, true, true, true, true, true, true, true, true, true, true, false, false, false, false, false, false, false]) (by kernel_rfl) hHeld
                have hF := four_heap wr (.cells AI 3) (.cells AS 106) (.cells AT 43) (.cells AI 3)
                have HF : Four wr ((((wr.alloc (.cells AI 3)).alloc (.cells AS 106)).alloc (.cells AT 43)).alloc (.cells AI 3)).drew AS AI AT (wr.heap.size + 1) (wr.heap.size) (wr.heap.size + 1 + 1 + 1) (wr.heap.size + 1 + 1) := ⟨hF.2.1, hF.1, hF.2.2.2.1, hF.2.2.1, ⟨by omega, by omega, by omega, by omega⟩, ⟨by omega, by omega, by omega, by omega, by omega, by omega⟩, hF.2.2.2.2.2.drew⟩
                clear hF
                exact TT.out _ _ _ _ _ hHeld HF
              exact AllReadyL.nil
            exact AllReadyL.nil
          refine AllReadyL.cons (by rfl) (fun K hK => ?_) ?_
          · go_simp
            refine hK.out _ _ (held_alloc hHeld (by rfl)) (fun hHeld2 => ?_)
            clear hK K hHeld
            try simp only [Act.put, List.setIfInBounds_toArray, List.set_cons_zero, List.set_cons_succ]
            have hHeld := hHeld2
            clear hHeld2
            refine wpAnyL_listed (l' := #[true, true, true, true, true, true, false, true, true, true, true, true, true, true, false, false, false, false, false, false, false, false]) (by kernel_rfl) ?_
            replace hHeld := heldAt_listed (l' := #[true, true, true, true, true, true, false, true, true, true, true, true, true, true, false, false, false, false, false, false, false, false]) (by kernel_rfl) hHeld
            refine wpAnyL_ready (rs := [6, 14]) (by kernel_rfl) (by simp) ?_
            refine AllReadyL.cons (by rfl) (fun K hK => ?_) ?_
            · go_simp
              refine hK.out _ _ (held_alloc hHeld (by rfl)) (fun hHeld2 => ?_)
              clear hK K hHeld
              try simp only [Act.put, List.setIfInBounds_toArray, List.set_cons_zero, List.set_cons_succ]
              have hHeld := hHeld2
              clear hHeld2
              refine wpAnyL_listed (l' := #[true, true, true, true, true, true, true, true, true, true, true, true, true, true, false, false, false, false, false, false, false, false]) (by kernel_rfl) ?_
              replace hHeld := heldAt_listed (l' := #[true, true, true, true, true, true, true, true, true, true, true, true, true, true, false, false, false, false, false, false, false, false]) (by kernel_rfl) hHeld
              refine wpAnyL_ready (rs := [14]) (by kernel_rfl) (by simp) ?_
              refine AllReadyL.cons (by rfl) (fun K hK => ?_) ?_
              · go_simp
                refine hK.out _ _ (held_alloc hHeld (by rfl)) (fun hHeld2 => ?_)
                clear hK K hHeld
                try simp only [Act.put, List.setIfInBounds_toArray, List.set_cons_zero, List.set_cons_succ]
                have hHeld := hHeld2
                clear hHeld2
                refine wpAnyL_listed (l' := #[true, true, true, true, true, true, true, true, true, true, true, true, true, true, true, false, false, false, false, false, false, false]) (by kernel_rfl) ?_
                replace hHeld := heldAt_listed (l' := #[true, true, true, true, true, true, true, true, true, true, true, true, true, true, true, false, false, false, false, false, false, false]) (by kernel_rfl) hHeld
                have hF := four_heap wr (.cells AI 3) (.cells AI 3) (.cells AS 106) (.cells AT 43)
                have HF : Four wr ((((wr.alloc (.cells AI 3)).alloc (.cells AI 3)).alloc (.cells AS 106)).alloc (.cells AT 43)).drew AS AI AT (wr.heap.size + 1 + 1) (wr.heap.size) (wr.heap.size + 1) (wr.heap.size + 1 + 1 + 1) := ⟨hF.2.2.1, hF.1, hF.2.1, hF.2.2.2.1, ⟨by omega, by omega, by omega, by omega⟩, ⟨by omega, by omega, by omega, by omega, by omega, by omega⟩, hF.2.2.2.2.2.drew⟩
                clear hF
                exact TT.out _ _ _ _ _ hHeld HF
              exact AllReadyL.nil
            refine AllReadyL.cons (by rfl) (fun K hK => ?_) ?_
            · go_simp
              refine hK.out _ _ (held_alloc hHeld (by rfl)) (fun hHeld2 => ?_)
              clear hK K hHeld
              try simp only [Act.put, List.setIfInBounds_toArray, List.set_cons_zero, List.set_cons_succ]
              have hHeld := hHeld2
              clear hHeld2
              refine wpAnyL_listed (l' := #[true, true, true, true, true, true, false, true, true, true, true, true, true, true, true, false, false, false, false, false, false, false]) (by kernel_rfl) ?_
              replace hHeld := heldAt_listed (l' := #[true, true, true, true, true, true, false, true, true, true, true, true, true, true, true, false, false, false, false, false, false, false]) (by kernel_rfl) hHeld
              refine wpAnyL_ready (rs := [6]) (by kernel_rfl) (by simp) ?_
              refine AllReadyL.cons (by rfl) (fun K hK => ?_) ?_
              · go_simp
                refine hK.out _ _ (held_alloc hHeld (by rfl)) (fun hHeld2 => ?_)
                clear hK K hHeld
                try simp only [Act.put, List.setIfInBounds_toArray, List.set_cons_zero, List.set_cons_succ]
                have hHeld := hHeld2
                clear hHeld2
                refine wpAnyL_listed (l' := #[true, true, true, true, true, true, true, true, true, true, true, true, true, true, true, false, false, false, false, false, false, false]) (by kernel_rfl) ?_
                replace hHeld := heldAt_listed (l' := #[true, true, true, true, true, true, true, true, true, true, true, true, true, true, true, false, false, false, false, false, false, false]) (by kernel_rfl) hHeld
                have hF := four_heap wr (.cells AI 3) (.cells AI 3) (.cells AT 43) (.cells AS 106)
                have HF : Four wr ((((wr.alloc (.cells AI 3)).alloc (.cells AI 3)).alloc (.cells AT 43)).alloc (.cells AS 106)).drew AS AI AT (wr.heap.size + 1 + 1 + 1) (wr.heap.size) (wr.heap.size + 1) (wr.heap.size + 1 + 1) := ⟨hF.2.2.2.1, hF.1, hF.2.1, hF.2.2.1, ⟨by omega, by omega, by omega, by omega⟩, ⟨by omega, by omega, by omega, by omega, by omega, by omega⟩, hF.2.2.2.2.2.drew⟩
                clear hF
                exact TT.out _ _ _ _ _ hHeld HF
              exact AllReadyL.nil
            exact AllReadyL.nil
          refine AllReadyL.cons (by rfl) (fun K hK => ?_) ?_
          · go_simp
            refine hK.out _ _ (held_alloc hHeld (by rfl)) (fun hHeld2 => ?_)
            clear hK K hHeld
            try simp only [Act.put, List.setIfInBounds_toArray, List.set_cons_zero, List.set_cons_succ]
            have hHeld := hHeld2
            clear hHeld2
            refine wpAnyL_listed (l' := #[true, true, true, true, true, true, false, true, true, true, false, true, true, true, true, false, false, false, false, false, false, false]) (by kernel_rfl) ?_
            replace hHeld := heldAt_listed (l' := #[true, true, true, true, true, true, false, true, true, true, false, true, true, true, true, false, false, false, false, false, false, false]) (by kernel_rfl) hHeld
            refine wpAnyL_ready (rs := [6, 10]) (by kernel_rfl) (by simp) ?_
            refine AllReadyL.cons (by rfl) (fun K hK => ?_) ?_
            · go_simp
              refine hK.out _ _ (held_alloc hHeld (by rfl)) (fun hHeld2 => ?_)
              clear hK K hHeld
              try simp only [Act.put, List.setIfInBounds_toArray, List.set_cons_zero, List.set_cons_succ]
              have hHeld := hHeld2
              clear hHeld2
              refine wpAnyL_listed (l' := #[true, true, true, true, true, true, true, true, true, true, false, true, true, true, true, false, false, false, false, false, false, false]) (by kernel_rfl) ?_
              replace hHeld := heldAt_listed (l' := #[true, true, true, true, true, true, true, true, true, true, false, true, true, true, true, false, false, false, false, false, false, false]) (by kernel_rfl) hHeld
              refine wpAnyL_ready (rs := [10]) (by kernel_rfl) (by simp) ?_
              refine AllReadyL.cons (by rfl) (fun K hK => ?_) ?_
              · go_simp
                refine hK.out _ _ (held_alloc hHeld (by rfl)) (fun hHeld2 => ?_)
                clear hK K hHeld
                try simp only [Act.put, List.setIfInBounds_toArray, List.set_cons_zero, List.set_cons_succ]
                have hHeld := hHeld2
                clear hHeld2
                refine wpAnyL_listed (l' := #[true, true, true, true, true, true, true, true, true, true, true, true, true, true, true, false, false, false, false, false, false, false]) (by kernel_rfl) ?_
                replace hHeld := heldAt_listed (l' := #[true, true, true, true, true, true, true, true, true, true, true, true, true, true, true, false, false, false, false, false, false, false]) (by kernel_rfl) hHeld
                have hF := four_heap wr (.cells AI 3) (.cells AT 43) (.cells AS 106) (.cells AI 3)
                have HF : Four wr ((((wr.alloc (.cells AI 3)).alloc (.cells AT 43)).alloc (.cells AS 106)).alloc (.cells AI 3)).drew AS AI AT (wr.heap.size + 1 + 1) (wr.heap.size) (wr.heap.size + 1 + 1 + 1) (wr.heap.size + 1) := ⟨hF.2.2.1, hF.1, hF.2.2.2.1, hF.2.1, ⟨by omega, by omega, by omega, by omega⟩, ⟨by omega, by omega, by omega, by omega, by omega, by omega⟩, hF.2.2.2.2.2.drew⟩
                clear hF
                exact TT.out _ _ _ _ _ hHeld HF
              exact AllReadyL.nil
            refine AllReadyL.cons (by rfl) (fun K hK => ?_) ?_
            · go_simp
              refine hK.out _ _ (held_alloc hHeld (by rfl)) (fun hHeld2 => ?_)
              clear hK K hHeld
              try simp only [Act.put, List.setIfInBounds_toArray, List.set_cons_zero, List.set_cons_succ]
              have hHeld := hHeld2
              clear hHeld2
              refine wpAnyL_listed (l' := #[true, true, true, true, true, true, false, true, true, true, true, true, true, true, true, false, false, false, false, false, false, false]) (by kernel_rfl) ?_
              replace hHeld := heldAt_listed (l' := #[true, true, true, true, true, true, false, true, true, true, true, true, true, true, true, false, false, false, false, false, false, false]) (by kernel_rfl) hHeld
              refine wpAnyL_ready (rs := [6]) (by kernel_rfl) (by simp) ?_
              refine AllReadyL.cons (by rfl) (fun K hK => ?_) ?_
              · go_simp
                refine hK.out _ _ (held_alloc hHeld (by rfl)) (fun hHeld2 => ?_)
                clear hK K hHeld
                try simp only [Act.put, List.setIfInBounds_toArray, List.set_cons_zero, List.set_cons_succ]
                have hHeld := hHeld2
                clear hHeld2
                refine wpAnyL_listed (l' := #[true, true, true, true, true, true, true, true, true, true, true, true, true, true, true, false, false, false, false, false, false, false]) (by kernel_rfl) ?_
                replace hHeld := heldAt_listed (l' := #[true, true, true, true, true, true, true, true, true, true, true, true, true, true, true, false, false, false, false, false, false, false]) (by kernel_rfl) hHeld
                have hF := four_heap wr (.cells AI 3) (.cells AT 43) (.cells AI 3) (.cells AS 106)
                have HF : Four wr ((((wr.alloc (.cells AI 3)).alloc (.cells AT 43)).alloc (.cells AI 3)).alloc (.cells AS 106)).drew AS AI AT (wr.heap.size + 1 + 1 + 1) (wr.heap.size) (wr.heap.size + 1 + 1) (wr.heap.size + 1) := ⟨hF.2.2.2.1, hF.1, hF.2.2.1, hF.2.1, ⟨by omega, by omega, by omega, by omega⟩, ⟨by omega, by omega, by omega, by omega, by omega, by omega⟩, hF.2.2.2.2.2.drew⟩
                clear hF
                exact TT.out _ _ _ _ _ hHeld HF
              exact AllReadyL.nil
            exact AllReadyL.nil
          exact AllReadyL.nil
        refine AllReadyL.cons (by rfl) (fun K hK => ?_) ?_
        · go_simp
          refine hK.out _ _ (held_alloc hHeld (by rfl)) (fun hHeld2 => ?_)
          clear hK K hHeld
          try simp only [Act.put, List.setIfInBounds_toArray, List.set_cons_zero, List.set_cons_succ]
          have hHeld := hHeld2
          clear hHeld2
          refine wpAnyL_listed (l' := #[true, true, true, true, true, true, false, true, false, true, true, true, true, true, false, false, false, false, false, false, false, false]) (by kernel_rfl) ?_
          replace hHeld := heldAt_listed (l' := #[true, true, true, true, true, true, false, true, false, true, true, true, true, true, false, false, false, false, false, false, false, false]) (by kernel_rfl) hHeld
          refine wpAnyL_ready (rs := [6, 8, 14]) (by kernel_rfl) (by simp) ?_
          refine AllReadyL.cons (by rfl) (fun K hK => ?_) ?_
          · go_simp
            refine hK.out _ _ (held_alloc hHeld (by rfl)) (fun hHeld2 => ?_)
            clear hK K hHeld
            try simp only [Act.put, List.setIfInBounds_toArray, List.set_cons_zero, List.set_cons_succ]
            have hHeld := hHeld2
            clear hHeld2
            refine wpAnyL_listed (l' := #[true, true, true, true, true, true, true, true, false, true, true, true, true, true, false, false, false, false, false, false, false, false]) (by kernel_rfl) ?_
            replace hHeld := heldAt_listed (l' := #[true, true, true, true, true, true, true, true, false, true, true, true, true, true, false, false, false, false, false, false, false, false]) (by kernel_rfl) hHeld
            refine wpAnyL_ready (rs := [8, 14]) (by kernel_rfl) (by simp) ?_
            refine AllReadyL.cons (by rfl) (fun K hK => ?_) ?_
            · go_simp
              refine hK.out _ _ (held_alloc hHeld (by rfl)) (fun hHeld2 => ?_)
              clear hK K hHeld
              try simp only [Act.put, List.setIfInBounds_toArray, List.set_cons_zero, List.set_cons_succ]
              have hHeld := hHeld2
              clear hHeld2
              refine wpAnyL_listed (l' := #[true, true, true, true, true, true, true, true, true, true, true, true, true, true, false, false, false, false, false, false, false, false]) (by kernel_rfl) ?_
              replace hHeld := heldAt_listed (l' := #[true, true, true, true, true, true, true, true, true, true, true, true, true, true, false, false, false, false, false, false, false, false]) (by kernel_rfl) hHeld
              refine wpAnyL_ready (rs := [14]) (by kernel_rfl) (by simp) ?_
              refine AllReadyL.cons (by rfl) (fun K hK => ?_) ?_
              · go_simp
                refine hK.out _ _ (held_alloc hHeld (by rfl)) (fun hHeld2 => ?_)
                clear hK K hHeld
                try simp only [Act.put, List.setIfInBounds_toArray, List.set_cons_zero, List.set_cons_succ]
                have hHeld := hHeld2
                clear hHeld2
                refine wpAnyL_listed (l' := #[true, true, true, true, true, true, true, true, true, true, true, true, true, true, true, false, false, false, false, false, false, false]) (by kernel_rfl) ?_
                replace hHeld := heldAt_listed (l' := #[true, true, true, true, true, true, true, true, true, true, true, true, true, true, true, false, false, false, false, false, false, false]) (by kernel_rfl) hHeld
                have hF := four_heap wr (.cells AI 3) (.cells AS 106) (.cells AI 3) (.cells AT 43)
                have HF : Four wr ((((wr.alloc (.cells AI 3)).alloc (.cells AS 106)).alloc (.cells AI 3)).alloc (.cells AT 43)).drew AS AI AT (wr.heap.size + 1) (wr.heap.size + 1 + 1) (wr.heap.size) (wr.heap.size + 1 + 1 + 1) := ⟨hF.2.1, hF.2.2.1, hF.1, hF.2.2.2.1, ⟨by omega, by omega, by omega, by omega⟩, ⟨by omega, by omega, by omega, by omega, by omega, by omega⟩, hF.2.2.2.2.2.drew⟩
                clear hF
                exact TT.out _ _ _ _ _ hHeld HF
              exact AllReadyL.nil
            refine AllReadyL.cons (by rfl) (fun K hK => ?_) ?_
            · go_simp
              refine hK.out _ _ (held_alloc hHeld (by rfl)) (fun hHeld2 => ?_)
              clear hK K hHeld
              try simp only [Act.put, List.setIfInBounds_toArray, List.set_cons_zero, List.set_cons_succ]
              have hHeld := hHeld2
              clear hHeld2
              refine wpAnyL_listed (l' := #[true, true, true, true, true, true, true, true, false, true, true, true, true, true, true, false, false, false, false, false, false, false]) (by kernel_rfl) ?_
              replace hHeld := heldAt_listed (l' := #[true, true, true, true, true, true, true, true, false, true, true, true, true, true, true, false, false, false, false, false, false, false]) (by kernel_rfl) hHeld
              refine wpAnyL_ready (rs := [8]) (by kernel_rfl) (by simp) ?_
              refine AllReadyL.cons (by rfl) (fun K hK => ?_) ?_
              · go_simp
                refine hK.out _ _ (held_alloc hHeld (by rfl)) (fun hHeld2 => ?_)
                clear hK K hHeld
                try simp only [Act.put, List.setIfInBounds_toArray, List.set_cons_zero, List.set_cons_succ]
                have hHeld := hHeld2
                clear hHeld2
                refine wpAnyL_listed (l' := #[true, true, true, true, true, true, true, true, true, true, true, true, true, true, true, false, false, false, false, false, false, false]) (by kernel_rfl) ?_
                replace hHeld := heldAt_listed (l' := #[true, true, true, true, true, true, true, true, true, true, true, true, true, true, true, false, false, false, false, false, false, false]) (by kernel_rfl) hHeld
                have hF := four_heap wr (.cells AI 3) (.cells AS 106) (.cells AT 43) (.cells AI 3)
                have HF : Four wr ((((wr.alloc (.cells AI 3)).alloc (.cells AS 106)).alloc (.cells AT 43)).alloc (.cells AI 3)).drew AS AI AT (wr.heap.size + 1) (wr.heap.size + 1 + 1 + 1) (wr.heap.size) (wr.heap.size + 1 + 1) := ⟨hF.2.1, hF.2.2.2.1, hF.1, hF.2.2.1, ⟨by omega, by omega, by omega, by omega⟩, ⟨by omega, by omega, by omega, by omega, by omega, by omega⟩, hF.2.2.2.2.2.drew⟩
                clear hF
                exact TT.out _ _ _ _ _ hHeld HF
              exact AllReadyL.nil
            exact AllReadyL.nil
          refine AllReadyL.cons (by rfl) (fun K hK => ?_) ?_
          · go_simp
            refine hK.out _ _ (held_alloc hHeld (by rfl)) (fun hHeld2 => ?_)
            clear hK K hHeld
            try simp only [Act.put, List.setIfInBounds_toArray, List.set_cons_zero, List.set_cons_succ]
            have hHeld := hHeld2
            clear hHeld2
            refine wpAnyL_listed (l' := #[true, true, true, true, true, true, false, true, true, true, true, true, true, true, false, false, false, false, false, false, false, false]) (by kernel_rfl) ?_
            replace hHeld := heldAt_listed (l' := #[true, true, true, true, true, true, false, true, true, true, true, true, true, true, false, false, false, false, false, false, false, false]) (by kernel_rfl) hHeld
            refine wpAnyL_ready (rs := [6, 14]) (by kernel_rfl) (by simp) ?_
            refine AllReadyL.cons (by rfl) (fun K hK => ?_) ?_
            · go_simp
              refine hK.out _ _ (held_alloc hHeld (by rfl)) (fun hHeld2 => ?_)
              clear hK K hHeld
              try simp only [Act.put, List.setIfInBounds_toArray, List.set_cons_zero, List.set_cons_succ]
              have hHeld := hHeld2
              clear hHeld2
              refine wpAnyL_listed (l' := #[true, true, true, true, true, true, true, true, true, true, true, true, true, true, false, false, false, false, false, false, false, false]) (by kernel_rfl) ?_
              replace hHeld := heldAt_listed (l' := #[true, true, true, true, true, true, true, true, true, true, true, true, true, true, false, false, false, false, false, false, false, false]) (by kernel_rfl) hHeld
              refine wpAnyL_ready (rs := [14]) (by kernel_rfl) (by simp) ?_
              refine AllReadyL.cons (by rfl) (fun K hK => ?_) ?_
              · go_simp
                refine hK.out _ _ (held_alloc hHeld (by rfl)) (fun hHeld2 => ?_)
                clear hK K hHeld
                try simp only [Act.put, List.setIfInBounds_toArray, List.set_cons_zero, List.set_cons_succ]
                have hHeld := hHeld2
                clear hHeld2
                refine wpAnyL_listed (l' := #[true, true, true, true, true, true, true, true, true, true, true, true, true, true, true, false, false, false, false, false, false, false]) (by kernel_rfl) ?_
                replace hHeld := heldAt_listed (l' := #[true, true, true, true, true, true, true, true, true, true, true, true, true, true, true, false, false, false, false, false, false, false]) (by kernel_rfl) hHeld
                have hF := four_heap wr (.cells AI 3) (.cells AI 3) (.cells AS 106) (.cells AT 43)
                have HF : Four wr ((((wr.alloc (.cells AI 3)).alloc (.cells AI 3)).alloc (.cells AS 106)).alloc (.cells AT 43)).drew AS AI AT (wr.heap.size + 1 + 1) (wr.heap.size + 1) (wr.heap.size) (wr.heap.size + 1 + 1 + 1) := ⟨hF.2.2.1, hF.2.1, hF.1, hF.2.2.2.1, ⟨by omega, by omega, by omega, by omega⟩, ⟨by omega, by omega, by omega, by omega, by omega, by omega⟩, hF.2.2.2.2.2.drew⟩
                clear hF
                exact TT.out _ _ _ _ _ hHeld HF
              exact AllReadyL.nil
            refine AllReadyL.cons (by rfl) (fun K hK => ?_) ?_
            · go_simp
              refine hK.out _ _ (held_alloc hHeld (by rfl)) (fun hHeld2 => ?_)
              clear hK K hHeld
              try simp only [Act.put, List.setIfInBounds_toArray, List.set_cons_zero, List.set_cons_succ]
              have hHeld := hHeld2
              clear hHeld2
              refine wpAnyL_listed (l' := #[true, true, true, true, true, true, false, true, true, true, true, true, true, true, true, false, false, false, false, false, false, false]) (by kernel_rfl) ?_
              replace hHeld := heldAt_listed (l' := #[true, true, true, true, true, true, false, true, true, true, true, true, true, true, true, false, false, false, false, false, false, false]) (by kernel_rfl) hHeld
              refine wpAnyL_ready (rs := [6]) (by kernel_rfl) (by simp) ?_
              refine AllReadyL.cons (by rfl) (fun K hK => ?_) ?_
              · go_simp
                refine hK.out _ _ (held_alloc hHeld (by rfl)) (fun hHeld2 => ?_)
                clear hK K hHeld
                try simp only [Act.put, List.setIfInBounds_toArray, List.set_cons_zero, List.set_cons_succ]
                have hHeld := hHeld2
                clear hHeld2
                refine wpAnyL_listed (l' := #[true, true, true, true, true, true, true, true, true, true, true, true, true, true, true, false, false, false, false, false, false, false]) (by kernel_rfl) ?_
                replace hHeld := heldAt_listed (l' := #[true, true, true, true, true, true, true, true, true, true, true, true, true, true, true, false, false, false, false, false, false, false]) (by kernel_rfl) hHeld
                have hF := four_heap wr (.cells AI 3) (.cells AI 3) (.cells AT 43) (.cells AS 106)
                have HF : Four wr ((((wr.alloc (.cells AI 3)).alloc (.cells AI 3)).alloc (.cells AT 43)).alloc (.cells AS 106)).drew AS AI AT (wr.heap.size + 1 + 1 + 1) (wr.heap.size + 1) (wr.heap.size) (wr.heap.size + 1 + 1) := ⟨hF.2.2.2.1, hF.2.1, hF.1, hF.2.2.1, ⟨by omega, by omega, by omega, by omega⟩, ⟨by omega, by omega, by omega, by omega, by omega, by omega⟩, hF.2.2.2.2.2.drew⟩
                clear hF
                exact TT.out _ _ _ _ _ hHeld HF
              exact AllReadyL.nil
            exact AllReadyL.nil
          refine AllReadyL.cons (by rfl) (fun K hK => ?_) ?_
          · go_simp
            refine hK.out _ _ (held_alloc hHeld (by rfl)) (fun hHeld2 => ?_)
            clear hK K hHeld
            try simp only [Act.put, List.setIfInBounds_toArray, List.set_cons_zero, List.set_cons_succ]
            have hHeld := hHeld2
            clear hHeld2
            refine wpAnyL_listed (l' := #[true, true, true, true, true, true, false, true, false, true, true, true, true, true, true, false, false, false, false, false, false, false]) (by kernel_rfl) ?_
            replace hHeld := heldAt_listed (l' := #[true, true, true, true, true, true, false, true, false, true, true, true, true, true, true, false, false, false, false, false, false, false]) (by kernel_rfl) hHeld
            refine wpAnyL_ready (rs := [6, 8]) (by kernel_rfl) (by simp) ?_
            refine AllReadyL.cons (by rfl) (fun K hK => ?_) ?_
            · go_simp
              refine hK.out _ _ (held_alloc hHeld (by rfl)) (fun hHeld2 => ?_)
              clear hK K hHeld
              try simp only [Act.put, List.setIfInBounds_toArray, List.set_cons_zero, List.set_cons_succ]
              have hHeld := hHeld2
              clear hHeld2
              refine wpAnyL_listed (l' := #[true, true, true, true, true, true, true, true, false, true, true, true, true, true, true, false, false, false, false, false, false, false]) (by kernel_rfl) ?_
              replace hHeld := heldAt_listed (l' := #[true, true, true, true, true, true, true, true, false, true, true, true, true, true, true, false, false, false, false, false, false, false]) (by kernel_rfl) hHeld
              refine wpAnyL_ready (rs := [8]) (by kernel_rfl) (by simp) ?_
              refine AllReadyL.cons (by rfl) (fun K hK => ?_) ?_
              · go_simp
                refine hK.out _ _ (held_alloc hHeld (by rfl)) (fun hHeld2 => ?_)
                clear hK K hHeld
                try simp only [Act.put, List.setIfInBounds_toArray, List.set_cons_zero, List.set_cons_succ]
                have hHeld := hHeld2
                clear hHeld2
                refine wpAnyL_listed (l' := #[true, true, true, true, true, true, true, true, true, true, true, true, true, true, true, false, false, false, false, false, false, false]) (by kernel_rfl) ?_
                replace hHeld := heldAt_listed (l' := #[true, true, true, true, true, true, true, true, true, true, true, true, true, true, true, false, false, false, false, false, false, false]) (by kernel_rfl) hHeld
                have hF := four_heap wr (.cells AI 3) (.cells AT 43) (.cells AS 106) (.cells AI 3)
                have HF : Four wr ((((wr.alloc (.cells AI 3)).alloc (.cells AT 43)).alloc (.cells AS 106)).alloc (.cells AI 3)).drew AS AI AT (wr.heap.size + 1 + 1) (wr.heap.size + 1 + 1 + 1) (wr.heap.size) (wr.heap.size + 1) := ⟨hF.2.2.1, hF.2.2.2.1, hF.1, hF.2.1, ⟨by omega, by omega, by omega, by omega⟩, ⟨by omega, by omega, by omega, by omega, by omega, by omega⟩, hF.2.2.2.2.2.drew⟩
                clear hF
                exact TT.out _ _ _ _ _ hHeld HF
              exact AllReadyL.nil
            refine AllReadyL.cons (by rfl) (fun K hK => ?_) ?_
            · go_simp
              refine hK.out _ _ (held_alloc hHeld (by rfl)) (fun hHeld2 => ?_)
              clear hK K hHeld
              try simp only [Act.put, List.setIfInBounds_toArray, List.set_cons_zero, List.set_cons_succ]
              have hHeld := hHeld2
              clear hHeld2
              refine wpAnyL_listed (l' := #[true, true, true, true, true, true, false, true, true, true, true, true, true, true, true, false, false, false, false, false, false, false]) (by kernel_rfl) ?_
              replace hHeld := heldAt_listed (l' := #[true, true, true, true, true, true, false, true, true, true, true, true, true, true, true, false, false, false, false, false, false, false]) (by kernel_rfl) hHeld
              refine wpAnyL_ready (rs := [6]) (by kernel_rfl) (by simp) ?_
              refine AllReadyL.cons (by rfl) (fun K hK => ?_) ?_
              · go_simp
                refine hK.out _ _ (held_alloc hHeld (by rfl)) (fun hHeld2 => ?_)
                clear hK K hHeld
                try simp only [Act.put, List.setIfInBounds_toArray, List.set_cons_zero, List.set_cons_succ]
                have hHeld := hHeld2
                clear hHeld2
                refine wpAnyL_listed (l' := #[true, true, true, true, true, true, true, true, true, true, true, true, true, true, true, false, false, false, false, false, false, false]) (by kernel_rfl) ?_
                replace hHeld := heldAt_listed (l' := #[true, true, true, true, true, true, true, true, true, true, true, true, true, true, true, false, false, false, false, false, false, false]) (by kernel_rfl) hHeld
                have hF := four_heap wr (.cells AI 3) (.cells AT 43) (.cells AI 3) (.cells AS 106)
                have HF : Four wr ((((wr.alloc (.cells AI 3)).alloc (.cells AT 43)).alloc (.cells AI 3)).alloc (.cells AS 106)).drew AS AI AT (wr.heap.size + 1 + 1 + 1) (wr.heap.size + 1 + 1) (wr.heap.size) (wr.heap.size + 1) := ⟨hF.2.2.2.1, hF.2.2.1, hF.1, hF.2.1, ⟨by omega, by omega, by omega, by omega⟩, ⟨by omega, by omega, by omega, by omega, by omega, by omega⟩, hF.2.2.2.2.2.drew⟩
                clear hF
                exact TT.out _ _ _ _ _ hHeld HF
              exact AllReadyL.nil
            exact AllReadyL.nil
          exact AllReadyL.nil
        refine AllReadyL.cons (by rfl) (fun K hK => ?_) ?_
        · go_simp
          refine hK.out _ _ (held_alloc hHeld (by rfl)) (fun hHeld2 => ?_)
          clear hK K hHeld
          try simp only [Act.put, List.setIfInBounds_toArray, List.set_cons_zero, List.set_cons_succ]
          have hHeld := hHeld2
          clear hHeld2
          refine wpAnyL_listed (l' := #[true, true, true, true, true, true, false, true, false, true, false, true, true, true, true, false, false, false, false, false, false, false]) (by kernel_rfl) ?_
          replace hHeld := heldAt_listed (l' := #[true, true, true, true, true, true, false, true, false, true, false, true, true, true, true, false, false, false, false, false, false, false]) (by kernel_rfl) hHeld
          refine wpAnyL_ready (rs := [6, 8, 10]) (by kernel_rfl) (by simp) ?_
          refine AllReadyL.cons (by rfl) (fun K hK => ?_) ?_
          · go_simp
            refine hK.out _ _ (held_alloc hHeld (by rfl)) (fun hHeld2 => ?_)
            clear hK K hHeld
            try simp only [Act.put, List.setIfInBounds_toArray, List.set_cons_zero, List.set_cons_succ]
            have hHeld := hHeld2
            clear hHeld2
            refine wpAnyL_listed (l' := #[true, true, true, true, true, true, true, true, false, true, false, true, true, true, true, false, false, false, false, false, false, false]) (by kernel_rfl) ?_
            replace hHeld := heldAt_listed (l' := #[true, true, true, true, true, true, true, true, false, true, false, true, true, true, true, false, false, false, false, false, false, false]) (by kernel_rfl) hHeld
            refine wpAnyL_ready (rs := [8, 10]) (by kernel_rfl) (by simp) ?_
            refine AllReadyL.cons (by rfl) (fun K hK => ?_) ?_
            · go_simp
              refine hK.out _ _ (held_alloc hHeld (by rfl)) (fun hHeld2 => ?_)
              clear hK K hHeld
              try simp only [Act.put, List.setIfInBounds_toArray, List.set_cons_zero, List.set_cons_succ]
              have hHeld := hHeld2
              clear hHeld2
              refine wpAnyL_listed (l' := #[true, true, true, true, true, true, true, true, true, true, false, true, true, true, true, false, false, false, false, false, false, false]) (by kernel_rfl) ?_
              replace hHeld := heldAt_listed (l' := #[true, true, true, true, true, true, true, true, true, true, false, true, true, true, true, false, false, false, false, false, false, false]) (by kernel_rfl) hHeld
              refine wpAnyL_ready (rs := [10]) (by kernel_rfl) (by simp) ?_
              refine AllReadyL.cons (by rfl) (fun K hK => ?_) ?_
              · go_simp
                refine hK.out _ _ (held_alloc hHeld (by rfl)) (fun hHeld2 => ?_)
                clear hK K hHeld
                try simp only [Act.put, List.setIfInBounds_toArray, List.set_cons_zero, List.set_cons_succ]
                have hHeld := hHeld2
                clear hHeld2
                refine wpAnyL_listed (l' := #[true, true, true, true, true, true, true, true, true, true, true, true, true, true, true, false, false, false, false, false, false, false]) (by kernel_rfl) ?_
                replace hHeld := heldAt_listed (l' := #[true, true, true, true, true, true, true, true, true, true, true, true, true, true, true, false, false, false, false, false, false, false]) (by kernel_rfl) hHeld
                have hF := four_heap wr (.cells AT 43) (.cells AS 106) (.cells AI 3) (.cells AI 3)
                have HF : Four wr ((((wr.alloc (.cells AT 43)).alloc (.cells AS 106)).alloc (.cells AI 3)).alloc (.cells AI 3)).drew AS AI AT (wr.heap.size + 1) (wr.heap.size + 1 + 1) (wr.heap.size + 1 + 1 + 1) (wr.heap.size) := ⟨hF.2.1, hF.2.2.1, hF.2.2.2.1, hF.1, ⟨by omega, by omega, by omega, by omega⟩, ⟨by omega, by omega, by omega, by omega, by omega, by omega⟩, hF.2.2.2.2.2.drew⟩
                clear hF
                exact TT.out _ _ _ _ _ hHeld HF
              exact AllReadyL.nil
            refine AllReadyL.cons (by rfl) (fun K hK => ?_) ?_
            · go_simp
              refine hK.out _ _ (held_alloc hHeld (by rfl)) (fun hHeld2 => ?_)
              clear hK K hHeld
              try simp only [Act.put, List.setIfInBounds_toArray, List.set_cons_zero, List.set_cons_succ]
              have hHeld := hHeld2
              clear hHeld2
              refine wpAnyL_listed (l' := #[true, true, true, true, true, true, true, true, false, true, true, true, true, true, true, false, false, false, false, false, false, false]) (by kernel_rfl) ?_
              replace hHeld := heldAt_listed (l' := #[true, true, true, true, true, true, true, true, false, true, true, true, true, true, true, false, false, false, false, false, false, false]) (by kernel_rfl) hHeld
              refine wpAnyL_ready (rs := [8]) (by kernel_rfl) (by simp) ?_
              refine AllReadyL.cons (by rfl) (fun K hK => ?_) ?_
              · go_simp
                refine hK.out _ _ (held_alloc hHeld (by rfl)) (fun hHeld2 => ?_)
                clear hK K hHeld
                try simp only [Act.put, List.setIfInBounds_toArray, List.set_cons_zero, List.set_cons_succ]
                have hHeld := hHeld2
                clear hHeld2
                refine wpAnyL_listed (l' := #[true, true, true, true, true, true, true, true, true, true, true, true, true, true, true, false, false, false, false, false, false, false]) (by kernel_rfl) ?_
                replace hHeld := heldAt_listed (l' := #[true, true, true, true, true, true, true, true, true, true, true, true, true, true, true, false, false, false, false, false, false, false]) (by kernel_rfl) hHeld
                have hF := four_heap wr (.cells AT 43) (.cells AS 106) (.cells AI 3) (.cells AI 3)
                have HF : Four wr ((((wr.alloc (.cells AT 43)).alloc (.cells AS 106)).alloc (.cells AI 3)).alloc (.cells AI 3)).drew AS AI AT (wr.heap.size + 1) (wr.heap.size + 1 + 1 + 1) (wr.heap.size + 1 + 1) (wr.heap.size) := ⟨hF.2.1, hF.2.2.2.1, hF.2.2.1, hF.1, ⟨by omega, by omega, by omega, by omega⟩, ⟨by omega, by omega, by omega, by omega, by omega, by omega⟩, hF.2.2.2.2.2.drew⟩
                clear hF
                exact TT.out _ _ _ _ _ hHeld HF
              exact AllReadyL.nil
            exact AllReadyL.nil
          refine AllReadyL.cons (by rfl) (fun K hK => ?_) ?_
          · go_simp
            refine hK.out _ _ (held_alloc hHeld (by rfl)) (fun hHeld2 => ?_)
            clear hK K hHeld
            try simp only [Act.put, List.setIfInBounds_toArray, List.set_cons_zero, List.set_cons_succ]
            have hHeld := hHeld2
            clear hHeld2
            refine wpAnyL_listed (l' := #[true, true, true, true, true, true, false, true, true, true, false, true, true, true, true, false, false, false, false, false, false, false]) (by kernel_rfl) ?_
            replace hHeld := heldAt_listed (l' := #[true, true, true, true, true, true, false, true, true, true, false, true, true, true, true, false, false, false, false, false, false, false]) (by kernel_rfl) hHeld
            refine wpAnyL_ready (rs := [6, 10]) (by kernel_rfl) (by simp) ?_
            refine AllReadyL.cons (by rfl) (fun K hK => ?_) ?_
            · go_simp
              refine hK.out _ _ (held_alloc hHeld (by rfl)) (fun hHeld2 => ?_)
              clear hK K hHeld
              try simp only [Act.put, List.setIfInBounds_toArray, List.set_cons_zero, List.set_cons_succ]
              have hHeld := hHeld2
              clear hHeld2
              refine wpAnyL_listed (l' := #[true, true, true, true, true, true, true, true, true, true, false, true, true, true, true, false, false, false, false, false, false, false]) (by kernel_rfl) ?_
              replace hHeld := heldAt_listed (l' := #[true, true, true, true, true, true, true, true, true, true, false, true, true, true, true, false, false, false, false, false, false, false]) (by kernel_rfl) hHeld
              refine wpAnyL_ready (rs := [10]) (by kernel_rfl) (by simp) ?_
              refine AllReadyL.cons (by rfl) (fun K hK => ?_) ?_
              · go_simp
                refine hK.out _ _ (held_alloc hHeld (by rfl)) (fun hHeld2 => ?_)
                clear hK K hHeld
                try simp only [Act.put, List.setIfInBounds_toArray, List.set_cons_zero, List.set_cons_succ]
                have hHeld := hHeld2
                clear hHeld2
                refine wpAnyL_listed (l' := #[true, true, true, true, true, true, true, true, true, true, true, true, true, true, true, false, false, false, false, false, false, false]) (by kernel_rfl) ?_
                replace hHeld := heldAt_listed (l' := #[true, true, true, true, true, true, true, true, true, true, true, true, true, true, true, false, false, false, false, false, false, false]) (by kernel_rfl) hHeld
                have hF := four_heap wr (.cells AT 43) (.cells AI 3) (.cells AS 106) (.cells AI 3)
                have HF : Four wr ((((wr.alloc (.cells AT 43)).alloc (.cells AI 3)).alloc (.cells AS 106)).alloc (.cells AI 3)).drew AS AI AT (wr.heap.size + 1 + 1) (wr.heap.size + 1) (wr.heap.size + 1 + 1 + 1) (wr.heap.size) := ⟨hF.2.2.1, hF.2.1, hF.2.2.2.1, hF.1, ⟨by omega, by omega, by omega, by omega⟩, ⟨by omega, by omega, by omega, by omega, by omega, by omega⟩, hF.2.2.2.2.2.drew⟩
                clear hF
                exact TT.out _ _ _ _ _ hHeld HF
              exact AllReadyL.nil
            refine AllReadyL.cons (by rfl) (fun K hK => ?_) ?_
            · go_simp
              refine hK.out _ _ (held_alloc hHeld (by rfl)) (fun hHeld2 => ?_)
              clear hK K hHeld
              try simp only [Act.put, List.setIfInBounds_toArray, List.set_cons_zero, List.set_cons_succ]
              have hHeld := hHeld2
              clear hHeld2
              refine wpAnyL_listed (l' := #[true, true, true, true, true, true, false, true, true, true, true, true, true, true, true, false, false, false, false, false, false, false]) (by kernel_rfl) ?_
              replace hHeld := heldAt_listed (l' := #[true, true, true, true, true, true, false, true, true, true, true, true, true, true, true, false, false, false, false, false, false, false]) (by kernel_rfl) hHeld
              refine wpAnyL_ready (rs := [6]) (by kernel_rfl) (by simp) ?_
              refine AllReadyL.cons (by rfl) (fun K hK => ?_) ?_
              · go_simp
                refine hK.out _ _ (held_alloc hHeld (by rfl)) (fun hHeld2 => ?_)
                clear hK K hHeld
                try simp only [Act.put, List.setIfInBounds_toArray, List.set_cons_zero, List.set_cons_succ]
                have hHeld := hHeld2
                clear hHeld2
                refine wpAnyL_listed (l' := #[true, true, true, true, true, true, true, true, true, true, true, true, true, true, true, false, false, false, false, false, false, false]) (by kernel_rfl) ?_
                replace hHeld := heldAt_listed (l' := #[true, true, true, true, true, true, true, true, true, true, true, true, true, true, true, false, false, false, false, false, false, false]) (by kernel_rfl) hHeld
                have hF := four_heap wr (.cells AT 43) (.cells AI 3) (.cells AI 3) (.cells AS 106)
                have HF : Four wr ((((wr.alloc (.cells AT 43)).alloc (.cells AI 3)).alloc (.cells AI 3)).alloc (.cells AS 106)).drew AS AI AT (wr.heap.size + 1 + 1 + 1) (wr.heap.size + 1) (wr.heap.size + 1 + 1) (wr.heap.size) := ⟨hF.2.2.2.1, hF.2.1, hF.2.2.1, hF.1, ⟨by omega, by omega, by omega, by omega⟩, ⟨by omega, by omega, by omega, by omega, by omega, by omega⟩, hF.2.2.2.2.2.drew⟩
                clear hF
                exact TT.out _ _ _ _ _ hHeld HF
              exact AllReadyL.nil
            exact AllReadyL.nil
          refine AllReadyL.cons (by rfl) (fun K hK => ?_) ?_
          · go_simp
            refine hK.out _ _ (held_alloc hHeld (by rfl)) (fun hHeld2 => ?_)
            clear hK K hHeld
            try simp only [Act.put, List.setIfInBounds_toArray, List.set_cons_zero, List.set_cons_succ]
            have hHeld := hHeld2
            clear hHeld2
            refine wpAnyL_listed (l' := #[true, true, true, true, true, true, false, true, false, true, true, true, true, true, true, false, false, false, false, false, false, false]) (by kernel_rfl) ?_
            replace hHeld := heldAt_listed (l' := #[true, true, true, true, true, true, false, true, false, true, true, true, true, true, true, false, false, false, false, false, false, false]) (by kernel_rfl) hHeld
            refine wpAnyL_ready (rs := [6, 8]) (by kernel_rfl) (by simp) ?_
            refine AllReadyL.cons (by rfl) (fun K hK => ?_) ?_
            · go_simp
              refine hK.out _ _ (held_alloc hHeld (by rfl)) (fun hHeld2 => ?_)
              clear hK K hHeld
              try simp only [Act.put, List.setIfInBounds_toArray, List.set_cons_zero, List.set_cons_succ]
              have hHeld := hHeld2
              clear hHeld2
              refine wpAnyL_listed (l' := #[true, true, true, true, true, true, true, true, false, true, true, true, true, true, true, false, false, false, false, false, false, false]) (by kernel_rfl) ?_
              replace hHeld := heldAt_listed (l' := #[true, true, true, true, true, true, true, true, false, true, true, true, true, true, true, false, false, false, false, false, false, false]) (by kernel_rfl) hHeld
              refine wpAnyL_ready (rs := [8]) (by kernel_rfl) (by simp) ?_
              refine AllReadyL.cons (by rfl) (fun K hK => ?_) ?_
              · go_simp
                refine hK.out _ _ (held_alloc hHeld (by rfl)) (fun hHeld2 => ?_)
                clear hK K hHeld
                try simp only [Act.put, List.setIfInBounds_toArray, List.set_cons_zero, List.set_cons_succ]
                have hHeld := hHeld2
                clear hHeld2
                refine wpAnyL_listed (l' := #[true, true, true, true, true, true, true, true, true, true, true, true, true, true, true, false, false, false, false, false, false, false]) (by kernel_rfl) ?_
                replace hHeld := heldAt_listed (l' := #[true, true, true, true, true, true, true, true, true, true, true, true, true, true, true, false, false, false, false, false, false, false]) (by kernel_rfl) hHeld
                have hF := four_heap wr (.cells AT 43) (.cells AI 3) (.cells AS 106) (.cells AI 3)
                have HF : Four wr ((((wr.alloc (.cells AT 43)).alloc (.cells AI 3)).alloc (.cells AS 106)).alloc (.cells AI 3)).drew AS AI AT (wr.heap.size + 1 + 1) (wr.heap.size + 1 + 1 + 1) (wr.heap.size + 1) (wr.heap.size) := ⟨hF.2.2.1, hF.2.2.2.1, hF.2.1, hF.1, ⟨by omega, by omega, by omega, by omega⟩, ⟨by omega, by omega, by omega, by omega, by omega, by omega⟩, hF.2.2.2.2.2.drew⟩
                clear hF
                exact TT.out _ _ _ _ _ hHeld HF
              exact AllReadyL.nil
            refine AllReadyL.cons (by rfl) (fun K hK => ?_) ?_
            · go_simp
              refine hK.out _ _ (held_alloc hHeld (by rfl)) (fun hHeld2 => ?_)
              clear hK K hHeld
              try simp only [Act.put, List.setIfInBounds_toArray, List.set_cons_zero, List.set_cons_succ]
              have hHeld := hHeld2
              clear hHeld2
              refine wpAnyL_listed (l' := #[true, true, true, true, true, true, false, true, true, true, true, true, true, true, true, false, false, false, false, false, false, false]) (by kernel_rfl) ?_
              replace hHeld := heldAt_listed (l' := #[true, true, true, true, true, true, false, true, true, true, true, true, true, true, true, false, false, false, false, false, false, false]) (by kernel_rfl) hHeld
              refine wpAnyL_ready (rs := [6]) (by kernel_rfl) (by simp) ?_
              refine AllReadyL.cons (by rfl) (fun K hK => ?_) ?_
              · go_simp
                refine hK.out _ _ (held_alloc hHeld (by rfl)) (fun hHeld2 => ?_)
                clear hK K hHeld
                try simp only [Act.put, List.setIfInBounds_toArray, List.set_cons_zero, List.set_cons_succ]
                have hHeld := hHeld2
                clear hHeld2
                refine wpAnyL_listed (l' := #[true, true, true, true, true, true, true, true, true, true, true, true, true, true, true, false, false, false, false, false, false, false]) (by kernel_rfl) ?_
                replace hHeld := heldAt_listed (l' := #[true, true, true, true, true, true, true, true, true, true, true, true, true, true, true, false, false, false, false, false, false, false]) (by kernel_rfl) hHeld
                have hF := four_heap wr (.cells AT 43) (.cells AI 3) (.cells AI 3) (.cells AS 106)
                have HF : Four wr ((((wr.alloc (.cells AT 43)).alloc (.cells AI 3)).alloc (.cells AI 3)).alloc (.cells AS 106)).drew AS AI AT (wr.heap.size + 1 + 1 + 1) (wr.heap.size + 1 + 1) (wr.heap.size + 1) (wr.heap.size) := ⟨hF.2.2.2.1, hF.2.2.1, hF.2.1, hF.1, ⟨by omega, by omega, by omega, by omega⟩, ⟨by omega, by omega, by omega, by omega, by omega, by omega⟩, hF.2.2.2.2.2.drew⟩
                clear hF
                exact TT.out _ _ _ _ _ hHeld HF
              exact AllReadyL.nil
            exact AllReadyL.nil
          exact AllReadyL.nil
        exact AllReadyL.nil
      · intro w4 bT bG bA bS hHeld HF
        clear mkS mkI mkT
        refine wpAnyL_takeT (i := 15) (v := ?_) (by rfl) (by kernel_rfl) (by kernel_rfl) (by kernel_rfl) (by rfl) (fun _ _ _ h => h) (Or.inl ⟨by rfl, ?_⟩) hHeld (fun hHeld2 => ?_)
        rotate_left
        · (intro w hSw; (try dsimp only at hSw); go_simp; try (with_reducible rfl))
        try simp only [Act.put, List.setIfInBounds_toArray, List.set_cons_zero, List.set_cons_succ]
        clear hHeld
        have hHeld := hHeld2
        clear hHeld2
        refine wpAnyL_listed (l' := #[true, true, true, true, true, true, true, true, true, true, true, true, true, true, true, true, false, false, false, false, false, false]) (by kernel_rfl) ?_
        replace hHeld := heldAt_listed (l' := #[true, true, true, true, true, true, true, true, true, true, true, true, true, true, true, true, false, false, false, false, false, false]) (by kernel_rfl) hHeld
        refine wpAnyL_ready (rs := [16]) (by kernel_rfl) (by simp) ?_
        refine AllReadyL.cons (by rfl) (fun K hK => ?_) AllReadyL.nil
        go_simp
        refine hK.out _ _ (held_alloc hHeld (by rfl)) (fun hHeld2 => ?_)
        clear hK K hHeld
        try simp only [Act.put, List.setIfInBounds_toArray, List.set_cons_zero, List.set_cons_succ]
        have hHeld := hHeld2
        clear hHeld2
        refine wpAnyL_listed (l' := #[true, true, true, true, true, true, true, true, true, true, true, true, true, true, true, true, true, false, false, false, false, false]) (by kernel_rfl) ?_
        replace hHeld := heldAt_listed (l' := #[true, true, true, true, true, true, true, true, true, true, true, true, true, true, true, true, true, false, false, false, false, false]) (by kernel_rfl) hHeld
        refine wpAnyL_ready (rs := [17]) (by kernel_rfl) (by simp) ?_
        refine AllReadyL.cons (by rfl) (fun K hK => ?_) AllReadyL.nil
        go_simp
        refine hK.out _ _ (held_alloc hHeld (by rfl)) (fun hHeld2 => ?_)
        clear hK K hHeld
        try simp only [Act.put, List.setIfInBounds_toArray, List.set_cons_zero, List.set_cons_succ]
        have hHeld := hHeld2
        clear hHeld2
        refine wpAnyL_listed (l' := #[true, true, true, true, true, true, true, true, true, true, true, true, true, true, true, true, true, true, false, false, false, false]) (by kernel_rfl) ?_
        replace hHeld := heldAt_listed (l' := #[true, true, true, true, true, true, true, true, true, true, true, true, true, true, true, true, true, true, false, false, false, false]) (by kernel_rfl) hHeld
        have hBx := HF.bw.trans ((two_below w4 (brC c bS bA bG bT) (.cells #[.pointer (some ⟨w4.heap.size, 0, none⟩)] 99)).mono HF.bw.size)
        unfold brC at hBx
        refine wpAnyL_ready (rs := [18]) (by kernel_rfl) (by simp) ?_
        refine AllReadyL.cons (by rfl) (fun K hK => ?_) AllReadyL.nil
        refine step_appF (by rfl) 90 99 1 8 _ elBrp Tryz.underlying90 (.slice ra a rc) a ((List.range a).map fun i => .pointer (some ⟨X.B i, 0, none⟩)) (owns_below HROW.out hBx) (Below.refl _ _) _ 1 [.pointer (some ⟨w4.heap.size, 0, none⟩)] (has_new1 (m := w4.heap.size + 1) _ _ _ (by simp)) _ _ (by rfl) (by rfl) (by rfl) (by simp [Value.oneCell']) (by omega) (by unfold maxLen; omega) ?_
        intro v6 w6 hown6 hat6 hgrow6
        obtain ⟨a6, c6, rfl⟩ := owns_slice hown6
        obtain ⟨u5, uf5⟩ := beg_cell HP.out hBx hgrow6
        rw [HX.out.2.2] at u5 uf5
        have z1 := beg_box HP.out hBx hgrow6 HHL.out y1
        have z2 := far1 (x := Value.slice a6 (a + 1) c6) (j := 5) HNE.out z1
        refine hK.out _ _ ⟨z1, Or.inl (by rfl)⟩ (fun hHeld2 => ?_)
        clear hK K hHeld
        try simp only [Act.put, List.setIfInBounds_toArray, List.set_cons_zero, List.set_cons_succ]
        have hHeld := hHeld2
        clear hHeld2
        refine wpAnyL_listed (l' := #[true, true, true, true, true, true, true, true, true, true, true, true, true, true, true, true, true, true, true, false, false, false]) (by kernel_rfl) ?_
        replace hHeld := heldAt_listed (l' := #[true, true, true, true, true, true, true, true, true, true, true, true, true, true, true, true, true, true, true, false, false, false]) (by kernel_rfl) hHeld
        refine wpAnyL_takeT (i := 19) (v := ?_) (by rfl) (by kernel_rfl) (by kernel_rfl) (by kernel_rfl) (by rfl) (fun _ _ _ h => h) (Or.inl ⟨by rfl, ?_⟩) hHeld (fun hHeld2 => ?_)
        rotate_left
        · (intro w hSw; (try dsimp only at hSw); go_simp; try (with_reducible rfl))
        try simp only [Act.put, List.setIfInBounds_toArray, List.set_cons_zero, List.set_cons_succ]
        clear hHeld
        have hHeld := hHeld2
        clear hHeld2
        refine wpAnyL_listed (l' := #[true, true, true, true, true, true, true, true, true, true, true, true, true, true, true, true, true, true, true, true, false, false]) (by kernel_rfl) ?_
        replace hHeld := heldAt_listed (l' := #[true, true, true, true, true, true, true, true, true, true, true, true, true, true, true, true, true, true, true, true, false, false]) (by kernel_rfl) hHeld
        refine wpAnyL_takeT (i := 20) (v := ?_) (by rfl) (by kernel_rfl) (by kernel_rfl) (by kernel_rfl) (by rfl) (fun _ _ _ h => h) (Or.inl ⟨by rfl, ?_⟩) hHeld (fun hHeld2 => ?_)
        rotate_left
        · (intro w hSw; (try dsimp only at hSw); go_simp; try (with_reducible rfl))
        try simp only [Act.put, List.setIfInBounds_toArray, List.set_cons_zero, List.set_cons_succ]
        clear hHeld
        have hHeld := hHeld2
        clear hHeld2
        refine wpAnyL_listed (l' := #[true, true, true, true, true, true, true, true, true, true, true, true, true, true, true, true, true, true, true, true, true, false]) (by kernel_rfl) ?_
        replace hHeld := heldAt_listed (l' := #[true, true, true, true, true, true, true, true, true, true, true, true, true, true, true, true, true, true, true, true, true, false]) (by kernel_rfl) hHeld
        refine wpAnyL_ready (rs := [21]) (by kernel_rfl) (by simp) ?_
        refine AllReadyL.cons (by rfl) (fun K hK => ?_) AllReadyL.nil
        go_simp
        refine hK.out _ _ ⟨z2, Or.inl (by rfl)⟩ (fun _ => ?_)
        clear hK K hHeld
        try simp only [Act.put, List.setIfInBounds_toArray, List.set_cons_zero, List.set_cons_succ]
        refine wpAnyL_done (by kernel_rfl) ?_ _
        refine NoPanic.normal ?_
        obtain ⟨X', own', ⟨e1, e2, e3, e4, e5⟩, hP'⟩ := PAt.branch HP.out HLT.out (S := bS) (A := bA) (G := bG) (T := bT) (w5 := w4) ⟨HF.bw, HF.lo, HF.ne, by rw [← HA.out.1]; exact HF.s, by rw [← HA.out.2.1]; exact HF.a, by rw [← HA.out.2.1]; exact HF.g, by rw [← HA.out.2.2]; exact HF.t⟩ (Bb := w4.heap.size) (Nat.le_refl _) (two_below w4 _ _) (two_first w4 _ _) hown6 hat6 hgrow6
        rw [HX.out.2.2] at hP'
        have HX' : Hid (X'.vl = .slice la c.labs.length cl ∧ X'.vm = .slice ma c.items cm ∧ X'.W = Wb) := ⟨e1.trans HX.out.1, e2.trans HX.out.2.1, e3.trans HX.out.2.2⟩
        have HP' := Lib.hid hP'
        have hlt2 := HLT.out
        clear hP' e1 e2 e3 e4 e5 hown6 hat6 hgrow6 z1 z2 HF hBx y1 g5 u5 uf5
        go_wp2_with fail
        go_roundw
        case rel => exact ⟨a + 1, X', own', _, hlt2, by go_num, HX', HP'⟩
        case measure => simp [intOf]; omega

    · obtain rfl : a = c.n := by omega
      clear ha hlt
      have y3 := cell_on HP.out.bw XC.out.2.2.2.1
      have HVR : Hid (∃ ra rc, vR = .slice ra c.n rc) := owns_slice HP.out.rb
      go_upto_region 8 with (fail)
      clear y3
      go_loopw [6, 7, 45] (fun _ _ j wq => ∃ (k : Nat) (X : Adr) (own' : Own) (vQ : Value), k ≤ c.items ∧ j = .int .i64 k ∧ Hid (X.vl = .slice la c.labs.length cl ∧ X.vm = .slice ma c.items cm ∧ X.W = Wb) ∧ Hid (PAt W1 wq c X own' c.n k vR vQ)) (fun _ _ j _ => c.items - (intOf j).toNat)
      case atStart => exact ⟨0, X, own1, _, by omega, rfl, HX, HP⟩
      case round =>
        clear HP HX
        obtain ⟨k, X, own2, vQ, hk, rfl, HX, HP⟩ := hrel
        by_cases hkt : k < c.items
        · have hkz : (k : Int) < (c.items : Int) := by omega
          obtain ⟨qa, qc, rfl⟩ := owns_slice HP.out.rq
          obtain ⟨_, ma', cm', he, _, _, hmc⟩ := HCF.out.hm
          simp only [Value.slice.injEq] at he
          obtain ⟨rfl, -, rfl⟩ := he
          obtain ⟨mb, mo, rfl, hmd⟩ := hmc (by rw [ints_length]; exact Nat.lt_of_le_of_lt (Nat.zero_le _) hkt)
          have hmk : c.minted[k]'hkt = c.minted.getD k 0 := by rw [List.getD_eq_getElem?_getD, List.getElem?_eq_getElem (show k < c.minted.length from hkt)]; rfl
          have ym := cell_on HP.out.bw (hmd k _ (ints_get c.minted k hkt))
          rw [hmk] at ym
          have hbd : 0 ≤ c.minted.getD k 0 ∧ c.minted.getD k 0 ≤ 1048576 := by rw [← hmk]; exact HC.out.minted _ (List.getElem_mem _)
          have HBK : Hid (bk0 c k = (Bk.new c.n c.cap c.ticks).stock (c.minted.getD k 0)) := rfl
          have HST : Hid ((0 ≤ (Bk.new c.n c.cap c.ticks).res + c.minted.getD k 0 ∧ (Bk.new c.n c.cap c.ticks).res + c.minted.getD k 0 ≤ 2097152) ∧ (0 ≤ (Bk.new c.n c.cap c.ticks).all + c.minted.getD k 0 ∧ (Bk.new c.n c.cap c.ticks).all + c.minted.getD k 0 ≤ 2097152)) := by
            show _ ∧ _
            simp only [Bk.new]; omega
          generalize c.minted.getD k 0 = mk at *
          have y0 := cell_on HP.out.bw XC.out.1
          have y2 := cell_on HP.out.bw XC.out.2.2.1
          have y4 := cell_on HP.out.bw XC.out.2.2.2.2
          have g6 := HP.out.top.2
          rw [HX.out.2.2] at g6
          have HROW := Lib.hid HP.out.rq
          have HKT := Lib.hid hkt
          have hk3 : k + 1 ≤ 3 := by omega
          have CB := Lib.hid (fun Y => cnewBook c.n c.cap c.ticks Y (by omega) (by omega))
          clear hmc hmd hmk hbd hkt mkS mkI mkT HA
          go_wp2_with fail
          refine (CB.out _).mono ?_
          rintro e w5 ⟨S, gw, gg, gq, rfl, hB5, lo5, hb5⟩
          have HB5 := Lib.hid hb5
          have HLO := Lib.hid lo5
          have CS := Lib.hid (cstockBook hB5 mk HST.out.1 HST.out.2)
          replace g6 := cell_on hb5 g6
          clear hB5 lo5 hb5 y0 y2 y4 ym CB
          go_wp2_with fail
          refine CS.out.mono ?_
          rintro e w6 ⟨rfl, hB6, hW6⟩
          have hb6 : Below wr.heap.size wr w6 := HB5.out.trans (hW6.to_below HB5.out.size (by rintro b (rfl | rfl | rfl | rfl); exact HLO.out.1; exact HLO.out.2.1; exact HLO.out.2.2.1; exact HLO.out.2.2.2))
          have HB6 := Lib.hid hb6
          rw [← HBK.out] at hB6
          have HK6 := Lib.hid hB6
          have g6' := HP.out.top.2
          rw [HX.out.2.2] at g6'
          replace g6' := cell_on hb6 g6'
          have hlW := World.block_lt_of_cell? w6 _ g6'
          simp only at hlW
          have hneW : Wb ≠ w6.heap.size := by omega
          clear hB6 hW6 hb6 CS g6
          go_wp2_with (at_builtin; refine wp_appF (w0 := w6) 91 96 1 8 _ elBkp Tryz.underlying91 (.slice qa k qc) k ((List.range k).map fun i => .pointer (some ⟨X.K i, 0, none⟩)) (owns_below HROW.out HB6.out) (by repeat (first | exact Below.refl _ _ | refine Below.drew ?_ | refine Below.alloc ?_ (by first | (simp; done) | (simp; omega)) _ | refine Below.setCell ?_ (by first | (simp; done) | (simp; omega)) _)) _ 1 [.pointer (some ⟨S, 0, none⟩)] (has_new1 (m := w6.heap.size) _ _ _ (by simp)) (by rfl) _ _ (by rfl) (by rfl) (by rfl) (by simp [Value.oneCell']) (by omega) (by unfold maxLen; omega) ?_; intro v8 w8 hown8 hat8 hgrow8; obtain ⟨a8, c8, rfl⟩ := owns_slice hown8; obtain ⟨u8c, uf8⟩ := beg_cellQ HP.out HB6.out hgrow8; rw [HX.out.2.2] at u8c uf8; obtain ⟨X', own', ⟨e1, e2, e3, e4, e5⟩, hP'⟩ := PAt.book HP.out HB6.out HK6.out HLO.out (Below.refl _ _) hown8 hat8 hgrow8; rw [HX.out.2.2] at hP'; have HX' : Hid (X'.vl = .slice la c.labs.length cl ∧ X'.vm = .slice (some ⟨mb, mo, none⟩) c.items cm ∧ X'.W = Wb) := ⟨e1.trans HX.out.1, e2.trans HX.out.2.1, e3.trans HX.out.2.2⟩; have HP' := Lib.hid hP'; clear hP' e1 e2 e3 e4 e5 hown8 hat8 hgrow8)
          have hlt2 := HKT.out
          go_roundw
          case rel => exact ⟨k + 1, X', own', _, hlt2, by go_num, HX', HP'⟩
          case measure => simp [intOf]; omega
        · obtain rfl : k = c.items := by omega
          go_wp2_with fail
          go_ret
          obtain ⟨X', ⟨e1, e2, e3⟩, hP⟩ := PAt.ends HP.out (by omega) (by omega)
          have h1 : X'.vl = .slice la c.labs.length cl := e1.trans HX.out.1
          have h2 : X'.vm = .slice ma c.items cm := e2.trans HX.out.2.1
          obtain ⟨own', hW, hN⟩ := hP.done (by rw [h1, h2]; exact HCF.out.on hP.bw) (by rw [h1]; exact HLM.out.1.1) (by rw [h2]; exact HLM.out.1.2) (HLM.out.2.kept (hP.bw.block 0 hp0)) hp0
          exact ⟨X', own', by rw [e3, HX.out.2.2]; rfl, hW, fun b hb => hN b (by rw [HS0.out]; omega), HB.out.trans (hP.bw.mono HB.out.size)⟩
theorem cBegunOk : BegunOk := fun hc hcfg hl hm ho h0 => cBegun hc hcfg hl hm ho h0
end Go.Proofs.YtjdedflfdlhkdaaGreatDoor
