/- World: End. -/
import Derived.Deep.RegionHeld3
import Derived.Test.YtjdedflfdlhkdaaGreatDoorKav
namespace Go.Proofs.YtjdedflfdlhkdaaGreatDoor
open Go.ChangeShapes Go.WideShapes Go.ChangeAt Go.RowKit
set_option linter.unusedVariables false
set_option linter.unusedSimpArgs false

theorem owns_tyne {w : World} {B1 B2 e1 e2 s1 s2 n1 n2 : Nat} {v1 v2 : Value} {xs ys : List Value} (h1 : w.ownsRow B1 e1 s1 v1 n1 xs) (h2 : w.ownsRow B2 e2 s2 v2 n2 ys) (hne : e1 ≠ e2) {g : Nat} (hg : v1.ownBlock = some g) : v2.ownBlock ≠ some g := fun hg2 => by
  obtain ⟨-, -, c1, q1⟩ := owns_block_of h1 hg
  obtain ⟨-, -, c2, q2⟩ := owns_block_of h2 hg2
  rw [q1] at q2
  simp only [Option.some.injEq, Obj.cells.injEq] at q2
  exact hne q2.2.1
theorem owns_grown {w w' : World} {B1 B2 e1 e2 s1 s2 n1 n2 : Nat} {v1 v2 : Value} {xs ys : List Value} (h1 : w.ownsRow B1 e1 s1 v1 n1 xs) (h2 : w.ownsRow B2 e2 s2 v2 n2 ys) (hne : e1 ≠ e2) (hg : w.grownBy w' v2.ownBlock) : w'.ownsRow B1 e1 s1 v1 n1 xs :=
  owns_kept h1 fun g h => hg.block g (owns_block_of h1 h).2.1 (fun e => owns_tyne h1 h2 hne h e.symm)
/-- A purse's cells. -/
def purse (s : Wld) (i k : Nat) : List Value := [.int .i64 (s.asks i k), .int .i64 0, .int .i64 0, .int .i64 (s.sh i k).free, .int .i64 (s.sh i k).held, .int .i64 (s.sh i k).used]
def purC (s : Wld) (i n : Nat) : List Value := (List.range n).flatMap (purse s i)
theorem purC_succ (s : Wld) (i n : Nat) : purC s i (n + 1) = purC s i n ++ purse s i n := by unfold purC; rw [List.range_succ, List.flatMap_append]; simp
def resC (s : Wld) (n : Nat) : List Value := (List.range n).map fun k => .int .i64 (s.bk k).res
theorem resC_succ (s : Wld) (n : Nat) : resC s (n + 1) = resC s n ++ [.int .i64 (s.bk n).res] := by unfold resC; rw [List.range_succ, List.map_append]; rfl
theorem elPurse : Elem Tryz.prog 39 6 48 (.agg #[.int .i64 0, .int .i64 0, .int .i64 0, .int .i64 0, .int .i64 0, .int .i64 0]) := .of (by kernel_rfl) rfl (by decide)
theorem elPurses : Elem Tryz.prog 40 1 24 (.slice none 0 0) := .of (by kernel_rfl) rfl (by decide)
theorem elStores : Elem Tryz.prog 44 1 24 (.slice none 0 0) := .of (by kernel_rfl) rfl (by decide)
/-- What End tells, to be read. -/
structure EndH (w : World) (c : Cfg) (s : Wld) (r p t : Value) (pv tv : Nat → Value) (ev : Nat → Nat → Value) : Prop where
  r : Has w 1 r c.items (resC s c.items)
  p : Has w 1 p c.n ((List.range c.n).map pv)
  pe : ∀ i, i < c.n → Has w 6 (pv i) c.items (purC s i c.items)
  t : Has w 1 t c.n ((List.range c.n).map tv)
  te : ∀ i, i < c.n → Has w 1 (tv i) c.labs.length ((List.range c.labs.length).map (ev i))
  ee : ∀ i j, i < c.n → j < c.labs.length → Has w 5 (ev i j) (s.st i j).length (ents (s.st i j))
theorem EndH.on {w w' : World} {c : Cfg} {s : Wld} {r p t : Value} {pv tv : Nat → Value} {ev : Nat → Nat → Value} (h : EndH w c s r p t pv tv ev) (hb : Below w.heap.size w w') : EndH w' c s r p t pv tv ev :=
  ⟨h.r.below hb, h.p.below hb, fun i hi => (h.pe i hi).below hb, h.t.below hb, fun i hi => (h.te i hi).below hb, fun i j hi hj => (h.ee i j hi hj).below hb⟩
/-- What has been told of the first k branches. -/
structure EndP (w2 w : World) (c : Cfg) (X : Adr) (s : Wld) (k : Nat) (r p t : Value) (pv : Nat → Value) : Prop where
  bw : Below w2.heap.size w2 w
  r : w.ownsRow w2.heap.size 3 1 r c.items (resC s c.items)
  p : w.ownsRow w2.heap.size 40 1 p k ((List.range k).map pv)
  pe : ∀ i, i < k → w.ownsRow w2.heap.size 39 6 (pv i) c.items (purC s i c.items)
  t : w.ownsRow w2.heap.size 44 1 t k ((List.range k).map fun i => .slice (some ⟨X.T i, 0, none⟩) c.labs.length c.labs.length)
theorem EndP.on {w2 w w' : World} {c : Cfg} {X : Adr} {s : Wld} {k : Nat} {r p t : Value} {pv : Nat → Value} (h : EndP w2 w c X s k r p t pv) (hb : Below w.heap.size w w') : EndP w2 w' c X s k r p t pv :=
  ⟨h.bw.trans (hb.mono h.bw.size), owns_below h.r hb, owns_below h.p hb, fun i hi => owns_below (h.pe i hi) hb, owns_below h.t hb⟩
/-- Both rows are longer by one. -/
theorem EndP.next {w2 w wa wb wb' wc : World} {c : Cfg} {X : Adr} {s : Wld} {k : Nat} {r p t p' t' m : Value} {pv : Nat → Value} (h : EndP w2 w c X s k r p t pv) (hm : w.ownsRow w2.heap.size 39 6 m c.items (purC s k c.items))
    (hb1 : Below w.heap.size w wa) (hp : wb.ownsRow w2.heap.size 40 1 p' (k + 1) (((List.range k).map pv) ++ [m])) (hg1 : wa.grownBy wb p.ownBlock) (hB1 : Below w2.heap.size wa wb) (hb2 : Below wb.heap.size wb wb')
    (ht : wc.ownsRow w2.heap.size 44 1 t' (k + 1) (((List.range k).map fun i => .slice (some ⟨X.T i, 0, none⟩) c.labs.length c.labs.length) ++ [.slice (some ⟨X.T k, 0, none⟩) c.labs.length c.labs.length])) (hg2 : wb'.grownBy wc t.ownBlock) (hB2 : Below w2.heap.size wb' wc) :
    EndP w2 wc c X s (k + 1) r p' t' (updF pv k m) := by
  have ha := h.on hb1
  have hma := owns_below hm hb1
  have hta := ha.t
  have htb := owns_below (owns_grown hta ha.p (by decide) hg1) hb2
  have hsz : w2.heap.size ≤ wb.heap.size := Nat.le_trans ha.bw.size hB1.size
  refine ⟨ha.bw.trans ((hB1.trans (hb2.mono hsz)).trans hB2), owns_grown (owns_below (owns_grown ha.r ha.p (by decide) hg1) hb2) htb (by decide) hg2, ?_, fun i hi => ?_, ?_⟩
  · rw [List.range_succ, List.map_append, List.map_congr_left (g := pv) (fun i hi => updF_ne _ _ (by have := List.mem_range.1 hi; omega))]
    simp only [List.map_cons, List.map_nil, updF_same]
    exact owns_grown (owns_below hp hb2) htb (by decide) hg2
  · by_cases e : i = k
    · subst e
      rw [updF_same]
      exact owns_grown (owns_below (owns_grown hma ha.p (by decide) hg1) hb2) htb (by decide) hg2
    · rw [updF_ne _ _ e]
      exact owns_grown (owns_below (owns_grown (ha.pe i (by omega)) ha.p (by decide) hg1) hb2) htb (by decide) hg2
  · rw [List.range_succ, List.map_append]
    exact ht
theorem grown_src {wx w6 : World} {b : Nat} {v : Value} {blk : Option Nat} (h : Has wx 1 (.slice (some ⟨b, 0, none⟩) 1 1) 1 [v]) (hg : wx.grownBy w6 blk) (hne : blk ≠ some b) (hb : b < wx.heap.size) : Has w6 1 (.slice (some ⟨b, 0, none⟩) 1 1) 1 [v] :=
  h.kept (F := fun x => x = b) (fun b' off n c he => by simp only [Value.slice.injEq, Option.some.injEq, Addr.mk.injEq] at he; exact he.1.1.symm) (fun x hx e => by subst e; exact hg.block _ hx fun e => hne e.symm)
theorem asks_cell {w2 w w6 : World} {own : Own} {t : Tag} {A m : Nat} {xs : List Int} {v : Value} (hA : IntsAt w2 own t A xs) (h1 : Below w2.heap.size w2 w) (h2 : Below w2.heap.size w2 w6) (hz : w.cell? ⟨A, m, none⟩ = some v) : w6.cell? ⟨A, m, none⟩ = some v := by
  rw [World.cell?_of_block (w := w) (a := ⟨A, m, none⟩) (by rw [h2.block _ hA.lt, h1.block _ hA.lt])]; exact hz
theorem at_world {P : Program} {o : Oper} {a : Act} {K : Act → World → Prop} {Q : Exit → Act → World → Prop} {E : Prop} {b : Bool} (wx : World) (h : if b = true then Oper.wp P o a wx K Q else E) : if b = true then Oper.wp P o a wx K Q else E := h
theorem cell_two {w2 w w6 w7 : World} {g1 g2 : Option Nat} {b i : Nat} {v : Value} (h7 : ∃ wb, Below w6.heap.size w6 wb ∧ wb.grownBy w7 g2 ∧ Below w2.heap.size wb w7) (h6 : ∃ wa, Below w.heap.size w wa ∧ wa.grownBy w6 g1 ∧ Below w2.heap.size wa w6) (hb : Below w2.heap.size w2 w) (hs : w2.heap.size ≤ w.heap.size) (hz : w2.cell? ⟨b, i, none⟩ = some v) : w7.cell? ⟨b, i, none⟩ = some v := by
  obtain ⟨wb, q1, _, q2⟩ := h7
  obtain ⟨wa, r1, _, r2⟩ := h6
  have h26 := (hb.trans (r1.mono hs)).trans r2
  exact cell_on ((h26.trans (q1.mono h26.size)).trans q2) hz
theorem has_ptr {w : World} {g n cap : Nat} {f : Nat → Value} (h : Has w 1 (.slice (some ⟨g, 0, none⟩) n cap) n ((List.range n).map f)) (k : Nat) (hk : k < n) : w.cell? ⟨g, k, none⟩ = some (f k) := by
  obtain ⟨_, a, cap', he, _, _, hc⟩ := h
  simp only [Value.slice.injEq] at he
  obtain ⟨rfl, -, rfl⟩ := he
  obtain ⟨b, o, he, hcell⟩ := hc (by simp; omega)
  simp only [Option.some.injEq, Addr.mk.injEq, and_true] at he
  obtain ⟨rfl, rfl⟩ := he
  have := hcell k (f k) (by simp [hk])
  rwa [Nat.zero_add] at this
theorem endH_of {w2 w : World} {c : Cfg} {X : Adr} {own : Own} {N : Nat} {s : Wld} {r p t : Value} {pv : Nat → Value} (h : WAt w2 c X own N s) (q : EndP w2 w c X s c.n r p t pv) (hl : c.labs.length ≤ 4) :
    ∃ ev, EndH w c s r p t pv (fun i => .slice (some ⟨X.T i, 0, none⟩) c.labs.length c.labs.length) ev := by
  have hst : ∀ i, ∃ vs : Nat → Value, i < c.n → StoreAt w2 (X.T i) c.labs.length vs (s.st i) := fun i => by
    by_cases hi : i < c.n
    · obtain ⟨vs, q1, _⟩ := (h.st i hi).ex
      exact ⟨vs, fun _ => q1⟩
    · exact ⟨fun _ => .slice none 0 0, fun h => absurd h hi⟩
  obtain ⟨ev, hev⟩ := Classical.skolem.1 hst
  refine ⟨ev, Has.of_owns q.r, Has.of_owns q.p, fun i hi => Has.of_owns (q.pe i hi), Has.of_owns q.t, fun i hi => ?_, fun i j hi hj => ((hev i hi).rows j hj).1.below q.bw⟩
  refine Has.below ⟨⟨by simp, fun n cap e => by simp at e⟩, some ⟨X.T i, 0, none⟩, c.labs.length, rfl, Nat.le_refl _, by unfold maxLen; omega, fun _ => ⟨X.T i, 0, rfl, fun j u hu => ?_⟩⟩ q.bw
  rw [cell_of_row w2 _ _ _ _ _ (hev i hi).cells]
  simpa using hu
set_option maxRecDepth 100000 in
set_option maxHeartbeats 16000000 in
theorem cEnd {w : World} {c : Cfg} {vl vm : Value} (hc : c.Ok) (h : Rdy w c vl vm) (v : Value) (l : List Stp) (hv : Has w 8 v l.length (stps l)) (hvi : InF (fun b => b < w.heap.size) v) (hlen : l.length ≤ 300) :
    Calls Tryz.prog 31 #[.agg (c.cells vl vm), v] w fun e w' => ∃ r p t pv tv ev, e = .returned (.tuple #[r, p, t, .int .i64 0]) ∧ EndH w' c (wFold c l).1 r p t pv tv ev ∧ Below w.heap.size w w' := by
  have hbx := cfg_box w c vl vm
  obtain ⟨x0, x1, x2, x3, x4⟩ := cfg_at (heap_alloc_new w (.cells (c.cells vl vm) 25))
  have h1 := h.on hbx
  have CP := Lib.hid (cPlay0 cBegunOk cStepW hc h1.cf h1.il h1.im h1.od h1.od.pos v l (hv.below hbx) (hvi.mono fun b hb => Nat.lt_of_lt_of_le hb hbx.size) hlen)
  have HBX := Lib.hid hbx
  have HC := Lib.hid hc
  have hn := hc.n
  have hit := hc.items
  have hitc : c.items = c.minted.length := rfl
  rw [← hitc] at hit
  have hln := hc.len
  obtain ⟨_, la, cl, rfl, _⟩ := h.cf.hl
  obtain ⟨_, ma, cm, rfl, _⟩ := h.cf.hm
  unfold Cfg.cells at *
  rw [← hitc] at *
  clear h h1 hv hvi hbx hitc hc
  go_enter Tryz.func31, Tryz.ntmps31
  go_upto_region 1 with (fail)
  generalize (w.alloc (.cells #[.int .i64 c.n, .slice la c.labs.length cl, .int .i64 c.ticks, .slice ma c.items cm, .int .i64 c.cap] 25)) = W1 at *
  go_wp2_with fail
  refine CP.out.mono ?_
  rintro e w2 ⟨out, X, own, sv, fv, rv, N, rfl, hW, -, -, hb⟩
  have HW := Lib.hid hW
  have HB2 := Lib.hid (HBX.out.trans (hb.mono HBX.out.size))
  generalize hs0 : (wFold c l).1 = s at *
  have HS := Lib.hid hs0
  clear hs0
  clear hb CP x0 x1 x2 x3 x4 hW
  have htop : w2.cell? ⟨X.W, 6, none⟩ = some (.slice (some ⟨X.Q, 0, none⟩) c.items X.ck) ∧ w2.cell? ⟨X.W, 5, none⟩ = some (.slice (some ⟨X.R, 0, none⟩) c.n X.cb) := by
    have e := HW.out.fix.head
    exact ⟨by rw [cell_of_row w2 _ _ _ _ _ e]; rfl, by rw [cell_of_row w2 _ _ _ _ _ e]; rfl⟩
  obtain ⟨t6, t5⟩ := htop
  have T5 := Lib.hid t5
  clear t5
  go_upto_region 5 with (fail)
  go_loopw [4, 11, 31] (fun r _ j wr => ∃ k : Nat, k ≤ c.items ∧ j = .int .i64 k ∧ Hid (wr.ownsRow w2.heap.size 3 1 r k (resC s k)) ∧ Hid (Below w2.heap.size w2 wr)) (fun _ _ j _ => c.items - (intOf j).toNat)
  case atStart => exact ⟨0, by omega, rfl, World.ownsRow_nil _ _ _ _, Below.refl _ _⟩
  case round =>
    obtain ⟨k, hk, rfl, HR, HB⟩ := hrel
    by_cases hlt : k < c.items
    · have hltz : (k : Int) < (c.items : Int) := by omega
      obtain ⟨gw, gg, gq, cq, hbk, -⟩ := (HW.out.bk k hlt).ex
      have y3 := cell_on HB.out hbk.c3
      have yk := cell_on HB.out (by have := Has.of_owns HW.out.fix.rq; exact has_ptr this k hlt : w2.cell? ⟨X.Q, k, none⟩ = some (.pointer (some ⟨X.K k, 0, none⟩)))
      have HLT := Lib.hid hlt
      have hszk := HB.out.size
      have Hrs := Lib.hid (resC_succ s k)
      obtain ⟨ra, rc, rfl⟩ := owns_slice HR.out
      clear hlt hbk
      go_wp2_with (at_builtin; refine wp_app1 (w0 := wr) 22 3 1 8 _ elInt Tryz.underlying22 w2.heap.size _ _ _ HR.out (by repeat (first | exact Below.refl _ _ | refine Below.drew ?_ | refine Below.alloc ?_ (by first | (simp; done) | (simp; omega)) _ | refine Below.setCell ?_ (by first | (simp; done) | (simp; omega)) _)) [.int .i64 (s.bk k).res] rfl _ _ rfl rfl rfl (by first | exact heap_alloc_new _ _ | (simp only [heap_drew, heap_drewN]; exact heap_alloc_new _ _)) (by simp) rfl rfl (by omega) (by omega) hszk ?_; intro v5 w5 hown5 hgrow5 hb5)
      go_roundw
      case rel => exact ⟨k + 1, HLT.out, by go_num, by show World.ownsRow _ _ _ _ _ _ _; rw [Hrs.out]; exact hown5, HB.out.trans hb5⟩
      case measure => have := HLT.out; first | (simp [intOf]; done) | (simp [intOf]; omega)
    · obtain rfl : k = c.items := by omega
      clear t6 hlt hk
      have t5 := cell_on HB.out T5.out
      go_upto_region 10 with (fail)
      obtain ⟨ra, rc, rfl⟩ := owns_slice HR.out
      have hE0 : EndP w2 wr c X s 0 (.slice ra c.items rc) (.slice none 0 0) (.slice none 0 0) (fun _ => .slice none 0 0) := ⟨HB.out, HR.out, World.ownsRow_nil _ _ _ _, fun i hi => by omega, World.ownsRow_nil _ _ _ _⟩
      have HE0 := Lib.hid hE0
      clear hE0 HR HB t5
      go_loopw [5, 6, 13, 14, 15, 48] (fun p t _ _ _ j wq => ∃ (k : Nat) (pv : Nat → Value), k ≤ c.n ∧ j = .int .i64 k ∧ Hid (EndP w2 wq c X s k (.slice ra c.items rc) p t pv)) (fun _ _ _ _ _ j _ => c.n - (intOf j).toNat)
      case atStart => exact ⟨0, _, by omega, rfl, HE0⟩
      case round =>
        clear HE0
        obtain ⟨k, pv, hk, rfl, HE⟩ := hrel
        by_cases hlt : k < c.n
        · have hltz : (k : Int) < (c.n : Int) := by omega
          have yk := cell_on HE.out.bw (by have := Has.of_owns HW.out.fix.rb; exact has_ptr this k hlt : w2.cell? ⟨X.R, k, none⟩ = some (.pointer (some ⟨X.B k, 0, none⟩)))
          have hbr := HW.out.fix.br k hlt
          have b0 : w2.cell? ⟨X.B k, 0, none⟩ = some (.slice (some ⟨X.S k, 0, none⟩) c.items c.items) := by rw [cell_of_row w2 _ _ _ _ _ hbr]; rfl
          have b1 : w2.cell? ⟨X.B k, 1, none⟩ = some (.slice (some ⟨X.A k, 0, none⟩) c.items c.items) := by rw [cell_of_row w2 _ _ _ _ _ hbr]; rfl
          have b3 : w2.cell? ⟨X.B k, 3, none⟩ = some (.slice (some ⟨X.T k, 0, none⟩) c.labs.length c.labs.length) := by rw [cell_of_row w2 _ _ _ _ _ hbr]; rfl
          have y0 := cell_on HE.out.bw b0
          have HB0 := Lib.hid b0
          have HB1 := Lib.hid b1
          have HB3 := Lib.hid b3
          have HSH := Lib.hid (HW.out.sh k hlt)
          have HAS := Lib.hid (HW.out.asks k hlt)
          have HLT := Lib.hid hlt
          clear hlt hbr b0 b1 b3
          go_upto_region 14 with (fail)
          clear y0 yk
          have hszw := HE.out.bw.size
          obtain ⟨wq, rfl⟩ : ∃ x, x = wr := ⟨wr, rfl⟩
          go_loopw [14, 15, 57] (fun m _ j w3 => ∃ k2 : Nat, k2 ≤ c.items ∧ j = .int .i64 k2 ∧ Hid (w3.ownsRow wq.heap.size 39 6 m k2 (purC s k k2)) ∧ Hid (Below wq.heap.size wq w3)) (fun _ _ j _ => c.items - (intOf j).toNat)
          case atStart => exact ⟨0, by omega, rfl, World.ownsRow_nil _ _ _ _, Below.refl _ _⟩
          case round =>
            obtain ⟨m, hm, rfl, HM, HW3⟩ := hrel
            have hb23 : Below w2.heap.size w2 wr := HE.out.bw.trans (HW3.out.mono hszw)
            have HB23 := Lib.hid hb23
            by_cases hml : m < c.items
            · have hmz : (m : Int) < (c.items : Int) := by omega
              have z0 := cell_on hb23 HB0.out
              have z1 := cell_on hb23 HB1.out
              have za : wr.cell? ⟨X.A k, m, none⟩ = some (.int .i64 (s.asks k m)) := by
                have := (HAS.out.cell m (by simp; exact hml)).1
                rw [List.getElem_map, List.getElem_range] at this
                exact cell_on hb23 this
              have CS : Hid (∀ Y : World, Below wr.heap.size wr Y → _) := fun Y hY => cStock (((HSH.out.shf m hml).on hb23).on hY)
              have HLM := Lib.hid hml
              have Hpu := Lib.hid (purC_succ s k m)
              have hszm : wq.heap.size ≤ wr.heap.size := HW3.out.size
              obtain ⟨na, nc, rfl⟩ := owns_slice HM.out
              have hm3 : m + 1 ≤ 3 := by omega
              unfold purse at Hpu
              generalize s.asks k m = pa at *
              generalize (s.sh k m).free = pf at *
              generalize (s.sh k m).held = ph at *
              generalize (s.sh k m).used = pu at *
              clear hml hb23
              go_upto_region 16 with (fail)
              go_region_held3 (fun Z => Z.cell? ⟨X.B k, 0, none⟩ = some (.slice (some ⟨X.S k, 0, none⟩) c.items c.items) ∧ Z.cell? ⟨X.B k, 1, none⟩ = some (.slice (some ⟨X.A k, 0, none⟩) c.items c.items) ∧ Z.cell? ⟨X.A k, m, none⟩ = some (.int .i64 pa))
                (first | with_reducible exact ⟨j0, j1, j2⟩ | with_reducible exact ⟨i0, i1, i2⟩ | go_keep)
                ((first | (go_at_call 42; refine (CS.out _ (by repeat (first | exact Below.refl _ _ | refine Below.drew ?_ | refine Below.alloc ?_ (by first | (simp; done) | (simp; omega)) _ | refine Below.setCell ?_ (by first | (simp; done) | (simp; omega)) _))).mono ?_; rintro e w5 ⟨rfl, hb5'⟩; have hb5 : Below wr.heap.size wr w5 := Below.trans (by repeat (first | exact Below.refl _ _ | refine Below.drew ?_ | refine Below.alloc ?_ (by first | (simp; done) | (simp; omega)) _ | refine Below.setCell ?_ (by first | (simp; done) | (simp; omega)) _)) hb5'; have i0 := cell_on hb5 z0; have i1 := cell_on hb5 z1; have i2 := cell_on hb5 za; have HB5 := Lib.hid hb5; have hsz5 : wq.heap.size ≤ w5.heap.size := Nat.le_trans hszm hb5.size; have HM5 := Lib.hid (owns_below HM.out hb5); clear hb5 hb5') | (refine step_appN (w0 := w5) (wanted_of_none (by rfl)) 40 39 6 48 _ elPurse Tryz.underlying40 wq.heap.size (.slice na m nc) m (purC s k m) HM5.out (by repeat (first | exact Below.refl _ _ | refine Below.drew ?_ | refine Below.alloc ?_ (by first | (simp; done) | (simp; omega)) _ | refine Below.setCell ?_ (by first | (simp; done) | (simp; omega)) _)) _ 1 [.int .i64 pa, .int .i64 0, .int .i64 0, .int .i64 pf, .int .i64 ph, .int .i64 pu] (has_block (wp := w5) (by first | exact heap_alloc_new _ _ | (simp only [heap_drew, heap_drewN]; exact heap_alloc_new _ _)) (by rfl) (by rfl) (by decide)) _ _ (by rfl) (by rfl) (by rfl) (by simp [Value.oneCell']) (by omega) (by unfold maxLen; omega) hsz5 ?_; intro v6 w6 hown6 hgrow6 hb6; have HO6 := Lib.hid hown6; have hb56 : Below wq.heap.size wq w6 := (HW3.out.trans (HB5.out.mono hszm)).trans hb6; have HB6 := Lib.hid hb56; have j0 := cell_on ((HE.out.bw.trans (hb56.mono hszw))) HB0.out; have j1 := cell_on ((HE.out.bw.trans (hb56.mono hszw))) HB1.out; have j2 := asks_cell HAS.out HB23.out (HE.out.bw.trans (hb56.mono hszw)) za)))
              all_goals
                go_wp2_with fail
                go_roundw
                case rel => exact ⟨m + 1, HLM.out, by go_num, by show World.ownsRow _ _ _ _ _ _ _; rw [Hpu.out]; exact HO6.out, HB6⟩
                case measure => have := HLM.out; first | (simp [intOf]; done) | (simp [intOf]; omega)
            · obtain rfl : m = c.items := by omega
              have hszq : w2.heap.size ≤ wq.heap.size := hszw
              obtain ⟨pa, pc, rfl⟩ := owns_slice HE.out.p
              obtain ⟨ta, tc, rfl⟩ := owns_slice HE.out.t
              obtain ⟨na, nc, rfl⟩ := owns_slice HM.out
              have hE2 := HE.out.on HW3.out
              have HE2 := Lib.hid hE2
              have HMM := Lib.hid (owns_base HM.out hszq)
              have z3 := cell_on hb23 HB3.out
              have hpl : ∀ x, wr.heap.size ≤ x → (Value.slice pa k pc).ownBlock ≠ some x := fun x hx e => by have := (owns_block_of hE2.p e).2.1; omega
              have HPL := Lib.hid hpl
              have hk4 : k + 1 ≤ 4 := by have := HLT.out; omega
              have hszr : w2.heap.size ≤ wr.heap.size := hb23.size
              clear hE2 hpl hb23 HE HM hml hm
              go_upto_region 18 with (fail)
              go_region_held3 (fun Z => Z.cell? ⟨X.B k, 3, none⟩ = some (.slice (some ⟨X.T k, 0, none⟩) c.labs.length c.labs.length))
                (first | with_reducible exact j0 | with_reducible exact i0 | go_keep)
                ((first
                  | ((with_reducible refine at_world (wr.alloc (.cells #[.slice na c.items nc] 40)).drew ?_); refine step_appN (w0 := (wr.alloc (.cells #[.slice na c.items nc] 40)).drew) (wx := (wr.alloc (.cells #[.slice na c.items nc] 40)).drew) (wanted_of_none (by rfl)) 29 40 1 24 _ elPurses Tryz.underlying29 w2.heap.size (.slice pa k pc) k _ (owns_below HE2.out.p (Below.drew (Below.alloc (Below.refl _ wr) (Nat.le_refl _) (.cells #[.slice na c.items nc] 40)))) (Below.refl _ _) (.slice (some ⟨wr.heap.size, 0, none⟩) 1 1) 1 [.slice na c.items nc] (has_new1D wr _ _ rfl) _ _ (by rfl) (by rfl) (by rfl) (by simp [Value.oneCell']) (by omega) (by unfold maxLen; omega) (Nat.le_trans hszr (Below.size (Below.drew (Below.alloc (Below.refl _ wr) (Nat.le_refl _) (.cells #[.slice na c.items nc] 40))))) ?_; intro v6 w6 hown6 hgrow6 hb6; have i0 := cell_on ((HE2.out.bw.trans (Below.mono (Below.drew (Below.alloc (Below.refl _ wr) (Nat.le_refl _) (.cells #[.slice na c.items nc] 40))) hszr)).trans hb6) HB3.out; have HO6 := Lib.hid hown6; have HT6 := Lib.hid (owns_grown (owns_below HE2.out.t (Below.drew (Below.alloc (Below.refl _ wr) (Nat.le_refl _) (.cells #[.slice na c.items nc] 40)))) (owns_below HE2.out.p (Below.drew (Below.alloc (Below.refl _ wr) (Nat.le_refl _) (.cells #[.slice na c.items nc] 40)))) (by decide) hgrow6); have hsz6 : w2.heap.size ≤ w6.heap.size := ((HE2.out.bw.trans (Below.mono (Below.drew (Below.alloc (Below.refl _ wr) (Nat.le_refl _) (.cells #[.slice na c.items nc] 40))) hszr)).trans hb6).size; have HG6 : Hid (∃ wa, Below wr.heap.size wr wa ∧ wa.grownBy w6 (Value.slice pa k pc).ownBlock ∧ Below w2.heap.size wa w6) := ⟨_, (Below.drew (Below.alloc (Below.refl _ wr) (Nat.le_refl _) (.cells #[.slice na c.items nc] 40))), hgrow6, hb6⟩; obtain ⟨a6, c6, rfl⟩ := owns_slice hown6; clear hown6 hgrow6 hb6)
                  | ((with_reducible refine at_world ((wr.alloc (.cells #[.slice na c.items nc] 40)).alloc (.cells #[.slice (some ⟨X.T k, 0, none⟩) c.labs.length c.labs.length] 44)).drew ?_); refine step_appN (w0 := ((wr.alloc (.cells #[.slice na c.items nc] 40)).alloc (.cells #[.slice (some ⟨X.T k, 0, none⟩) c.labs.length c.labs.length] 44)).drew) (wx := ((wr.alloc (.cells #[.slice na c.items nc] 40)).alloc (.cells #[.slice (some ⟨X.T k, 0, none⟩) c.labs.length c.labs.length] 44)).drew) (wanted_of_none (by rfl)) 29 40 1 24 _ elPurses Tryz.underlying29 w2.heap.size (.slice pa k pc) k _ (owns_below HE2.out.p (Below.drew (two_below wr (.cells #[.slice na c.items nc] 40) (.cells #[.slice (some ⟨X.T k, 0, none⟩) c.labs.length c.labs.length] 44)))) (Below.refl _ _) (.slice (some ⟨wr.heap.size, 0, none⟩) 1 1) 1 [.slice na c.items nc] (Has.below (has_new1 wr (.slice na c.items nc) 40 rfl) (Below.drew ((Below.refl _ _).alloc (Nat.le_refl _) (.cells #[.slice (some ⟨X.T k, 0, none⟩) c.labs.length c.labs.length] 44)))) _ _ (by rfl) (by rfl) (by rfl) (by simp [Value.oneCell']) (by omega) (by unfold maxLen; omega) (Nat.le_trans hszr (Below.size (Below.drew (two_below wr (.cells #[.slice na c.items nc] 40) (.cells #[.slice (some ⟨X.T k, 0, none⟩) c.labs.length c.labs.length] 44))))) ?_; intro v6 w6 hown6 hgrow6 hb6; have i0 := cell_on ((HE2.out.bw.trans (Below.mono (Below.drew (two_below wr (.cells #[.slice na c.items nc] 40) (.cells #[.slice (some ⟨X.T k, 0, none⟩) c.labs.length c.labs.length] 44))) hszr)).trans hb6) HB3.out; have HO6 := Lib.hid hown6; have HT6 := Lib.hid (owns_grown (owns_below HE2.out.t (Below.drew (two_below wr (.cells #[.slice na c.items nc] 40) (.cells #[.slice (some ⟨X.T k, 0, none⟩) c.labs.length c.labs.length] 44)))) (owns_below HE2.out.p (Below.drew (two_below wr (.cells #[.slice na c.items nc] 40) (.cells #[.slice (some ⟨X.T k, 0, none⟩) c.labs.length c.labs.length] 44)))) (by decide) hgrow6); have hsz6 : w2.heap.size ≤ w6.heap.size := ((HE2.out.bw.trans (Below.mono (Below.drew (two_below wr (.cells #[.slice na c.items nc] 40) (.cells #[.slice (some ⟨X.T k, 0, none⟩) c.labs.length c.labs.length] 44))) hszr)).trans hb6).size; have HG6 : Hid (∃ wa, Below wr.heap.size wr wa ∧ wa.grownBy w6 (Value.slice pa k pc).ownBlock ∧ Below w2.heap.size wa w6) := ⟨_, (Below.drew (two_below wr (.cells #[.slice na c.items nc] 40) (.cells #[.slice (some ⟨X.T k, 0, none⟩) c.labs.length c.labs.length] 44))), hgrow6, hb6⟩; have HTa := Lib.hid (grown_src (b := wr.heap.size + 1) (has_new1D (wr.alloc (.cells #[.slice na c.items nc] 40)) (.slice (some ⟨X.T k, 0, none⟩) c.labs.length c.labs.length) 44 (by simp)) hgrow6 (HPL.out _ (by omega)) (by simp)); obtain ⟨a6, c6, rfl⟩ := owns_slice hown6; clear hown6 hgrow6 hb6)
                  | ((with_reducible refine at_world ((wr.alloc (.cells #[.slice (some ⟨X.T k, 0, none⟩) c.labs.length c.labs.length] 44)).alloc (.cells #[.slice na c.items nc] 40)).drew ?_); refine step_appN (w0 := ((wr.alloc (.cells #[.slice (some ⟨X.T k, 0, none⟩) c.labs.length c.labs.length] 44)).alloc (.cells #[.slice na c.items nc] 40)).drew) (wx := ((wr.alloc (.cells #[.slice (some ⟨X.T k, 0, none⟩) c.labs.length c.labs.length] 44)).alloc (.cells #[.slice na c.items nc] 40)).drew) (wanted_of_none (by rfl)) 29 40 1 24 _ elPurses Tryz.underlying29 w2.heap.size (.slice pa k pc) k _ (owns_below HE2.out.p (Below.drew (two_below wr (.cells #[.slice (some ⟨X.T k, 0, none⟩) c.labs.length c.labs.length] 44) (.cells #[.slice na c.items nc] 40)))) (Below.refl _ _) (.slice (some ⟨wr.heap.size + 1, 0, none⟩) 1 1) 1 [.slice na c.items nc] (has_new1D (wr.alloc (.cells #[.slice (some ⟨X.T k, 0, none⟩) c.labs.length c.labs.length] 44)) _ _ (by simp)) _ _ (by rfl) (by rfl) (by rfl) (by simp [Value.oneCell']) (by omega) (by unfold maxLen; omega) (Nat.le_trans hszr (Below.size (Below.drew (two_below wr (.cells #[.slice (some ⟨X.T k, 0, none⟩) c.labs.length c.labs.length] 44) (.cells #[.slice na c.items nc] 40))))) ?_; intro v6 w6 hown6 hgrow6 hb6; have i0 := cell_on ((HE2.out.bw.trans (Below.mono (Below.drew (two_below wr (.cells #[.slice (some ⟨X.T k, 0, none⟩) c.labs.length c.labs.length] 44) (.cells #[.slice na c.items nc] 40))) hszr)).trans hb6) HB3.out; have HO6 := Lib.hid hown6; have HT6 := Lib.hid (owns_grown (owns_below HE2.out.t (Below.drew (two_below wr (.cells #[.slice (some ⟨X.T k, 0, none⟩) c.labs.length c.labs.length] 44) (.cells #[.slice na c.items nc] 40)))) (owns_below HE2.out.p (Below.drew (two_below wr (.cells #[.slice (some ⟨X.T k, 0, none⟩) c.labs.length c.labs.length] 44) (.cells #[.slice na c.items nc] 40)))) (by decide) hgrow6); have hsz6 : w2.heap.size ≤ w6.heap.size := ((HE2.out.bw.trans (Below.mono (Below.drew (two_below wr (.cells #[.slice (some ⟨X.T k, 0, none⟩) c.labs.length c.labs.length] 44) (.cells #[.slice na c.items nc] 40))) hszr)).trans hb6).size; have HG6 : Hid (∃ wa, Below wr.heap.size wr wa ∧ wa.grownBy w6 (Value.slice pa k pc).ownBlock ∧ Below w2.heap.size wa w6) := ⟨_, (Below.drew (two_below wr (.cells #[.slice (some ⟨X.T k, 0, none⟩) c.labs.length c.labs.length] 44) (.cells #[.slice na c.items nc] 40))), hgrow6, hb6⟩; have HTb := Lib.hid (grown_src (b := wr.heap.size) (Has.below (has_new1 wr (.slice (some ⟨X.T k, 0, none⟩) c.labs.length c.labs.length) 44 rfl) (Below.drew ((Below.refl _ _).alloc (Nat.le_refl _) (.cells #[.slice na c.items nc] 40)))) hgrow6 (HPL.out _ (Nat.le_refl _)) (by simp; omega)); obtain ⟨a6, c6, rfl⟩ := owns_slice hown6; clear hown6 hgrow6 hb6)
                  | ((with_reducible refine at_world w6 ?_); refine step_appN (w0 := w6) (wx := w6) (wanted_of_none (by rfl)) 30 44 1 24 _ elStores Tryz.underlying30 w2.heap.size (.slice ta k tc) k _ (owns_below HT6.out (Below.refl _ _)) (Below.refl _ _) (.slice (some ⟨wr.heap.size + 1, 0, none⟩) 1 1) 1 [.slice (some ⟨X.T k, 0, none⟩) c.labs.length c.labs.length] HTa.out _ _ (by rfl) (by rfl) (by rfl) (by simp [Value.oneCell']) (by omega) (by unfold maxLen; omega) hsz6 ?_; intro v7 w7 hown7 hgrow7 hb7; have HO7 := Lib.hid hown7; have HG7 : Hid (∃ wb, Below w6.heap.size w6 wb ∧ wb.grownBy w7 (Value.slice ta k tc).ownBlock ∧ Below w2.heap.size wb w7) := ⟨_, (Below.refl _ _), hgrow7, hb7⟩; obtain ⟨a7, c7, rfl⟩ := owns_slice hown7; have j0 : w7.cell? ⟨X.B k, 3, none⟩ = some (.slice (some ⟨X.T k, 0, none⟩) c.labs.length c.labs.length) := cell_two HG7.out HG6.out HE2.out.bw hszr HB3.out; clear hown7 hgrow7 hb7)
                  | ((with_reducible refine at_world w6 ?_); refine step_appN (w0 := w6) (wx := w6) (wanted_of_none (by rfl)) 30 44 1 24 _ elStores Tryz.underlying30 w2.heap.size (.slice ta k tc) k _ (owns_below HT6.out (Below.refl _ _)) (Below.refl _ _) (.slice (some ⟨wr.heap.size, 0, none⟩) 1 1) 1 [.slice (some ⟨X.T k, 0, none⟩) c.labs.length c.labs.length] HTb.out _ _ (by rfl) (by rfl) (by rfl) (by simp [Value.oneCell']) (by omega) (by unfold maxLen; omega) hsz6 ?_; intro v7 w7 hown7 hgrow7 hb7; have HO7 := Lib.hid hown7; have HG7 : Hid (∃ wb, Below w6.heap.size w6 wb ∧ wb.grownBy w7 (Value.slice ta k tc).ownBlock ∧ Below w2.heap.size wb w7) := ⟨_, (Below.refl _ _), hgrow7, hb7⟩; obtain ⟨a7, c7, rfl⟩ := owns_slice hown7; have j0 : w7.cell? ⟨X.B k, 3, none⟩ = some (.slice (some ⟨X.T k, 0, none⟩) c.labs.length c.labs.length) := cell_two HG7.out HG6.out HE2.out.bw hszr HB3.out; clear hown7 hgrow7 hb7)
                  | ((with_reducible refine at_world (w6.alloc (.cells #[.slice (some ⟨X.T k, 0, none⟩) c.labs.length c.labs.length] 44)) ?_); refine step_appN (w0 := (w6.alloc (.cells #[.slice (some ⟨X.T k, 0, none⟩) c.labs.length c.labs.length] 44))) (wx := (w6.alloc (.cells #[.slice (some ⟨X.T k, 0, none⟩) c.labs.length c.labs.length] 44))) (wanted_of_none (by rfl)) 30 44 1 24 _ elStores Tryz.underlying30 w2.heap.size (.slice ta k tc) k _ (owns_below HT6.out (Below.alloc (Below.refl _ w6) (Nat.le_refl _) (.cells #[.slice (some ⟨X.T k, 0, none⟩) c.labs.length c.labs.length] 44))) (Below.refl _ _) (.slice (some ⟨w6.heap.size, 0, none⟩) 1 1) 1 [.slice (some ⟨X.T k, 0, none⟩) c.labs.length c.labs.length] (has_new1 w6 _ _ rfl) _ _ (by rfl) (by rfl) (by rfl) (by simp [Value.oneCell']) (by omega) (by unfold maxLen; omega) (Nat.le_trans hsz6 (Below.size (Below.alloc (Below.refl _ w6) (Nat.le_refl _) (.cells #[.slice (some ⟨X.T k, 0, none⟩) c.labs.length c.labs.length] 44)))) ?_; intro v7 w7 hown7 hgrow7 hb7; have HO7 := Lib.hid hown7; have HG7 : Hid (∃ wb, Below w6.heap.size w6 wb ∧ wb.grownBy w7 (Value.slice ta k tc).ownBlock ∧ Below w2.heap.size wb w7) := ⟨_, (Below.alloc (Below.refl _ w6) (Nat.le_refl _) (.cells #[.slice (some ⟨X.T k, 0, none⟩) c.labs.length c.labs.length] 44)), hgrow7, hb7⟩; obtain ⟨a7, c7, rfl⟩ := owns_slice hown7; have j0 : w7.cell? ⟨X.B k, 3, none⟩ = some (.slice (some ⟨X.T k, 0, none⟩) c.labs.length c.labs.length) := cell_two HG7.out HG6.out HE2.out.bw hszr HB3.out; clear hown7 hgrow7 hb7)))
              all_goals
                go_wp2_with fail
                go_roundw
                case rel =>
                  obtain ⟨wa, q1, q2, q3⟩ := HG6.out
                  obtain ⟨wb, q4, q5, q6⟩ := HG7.out
                  exact ⟨k + 1, _, HLT.out, by go_num, EndP.next HE2.out HMM.out q1 HO6.out q2 q3 q4 HO7.out q5 q6⟩
                case measure => have := HLT.out; first | (simp [intOf]; done) | (simp [intOf]; omega)
        · obtain rfl : k = c.n := by omega
          have hend := endH_of HW.out HE.out (by omega)
          obtain ⟨ev, hend⟩ := hend
          have HEN := Lib.hid hend
          have HBF := Lib.hid (HB2.out.trans (HE.out.bw.mono HB2.out.size))
          clear hend HE
          go_wp2_with fail
          refine bodyPost_ret (v := .tuple #[.slice ra c.items rc, u5, u6, .int .i64 0]) (by simp [results, Tryz.results31, go_sem]) rfl ?_
          exact ⟨_, _, _, _, _, ev, rfl, by rw [HS.out]; exact HEN.out, HBF.out⟩
end Go.Proofs.YtjdedflfdlhkdaaGreatDoor
