/- Clocks: the walk of Play. -/
import Derived.Test.YtkeefpeffeoakaaClockQ
namespace Go.Proofs.Ytkeefpeffeoakaa
open Go.ChangeShapes Go.WideShapes Go.ChangeAt Go.RowKit
set_option linter.unusedVariables false

/-- Rows of integers, each in a block of its kind. -/
def RowsI (w : World) (vs : List Value) (css : List (List Int)) : Prop := Each (fun v c => HasT w 3 1 v c.length (ints c)) vs css
theorem RowsI.below {w w' : World} {vs : List Value} {css : List (List Int)} (h : RowsI w vs css) (hb : Below w.heap.size w w') : RowsI w' vs css := Each.mono h fun _ _ _ h => h.below hb
theorem RowsI.chg {w w' : World} {vs : List Value} {css : List (List Int)} (h : RowsI w vs css) (hc : Chg [22] w w') : RowsI w' vs css := Each.mono h fun _ _ _ h => h.chg hc (by decide)
theorem elInts : Elem Try.prog 22 1 24 (.slice none 0 0) := .of (by kernel_rfl) rfl (by decide)
theorem infoInts : (Try.prog.info? 22).map (fun i => (i.zero, i.size, i.bytes)) = some (some (.slice none 0 0), 1, 24) := by kernel_rfl
theorem set_take {α : Type} (l : List α) (k : Nat) (u : α) (h : k < l.length) : (l.set k u).take (k + 1) = l.take k ++ [u] := by
  rw [take_snoc _ _ (by simpa using h)]
  rw [List.take_set_of_le (Nat.le_refl _)]
  simp
theorem rep_snoc {α : Type} (k : Nat) (a : α) : List.replicate k a ++ [a] = List.replicate (k + 1) a := by rw [List.replicate_succ']
/-- What stands behind k events. -/
structure PlayAt (w wr : World) (n : Nat) (l : List Ev) (k : Nat) (out : Value) (vn vo : List Value) : Prop where
  hn : wr.ownsRow w.heap.size 22 1 (.slice (some ⟨w.heap.size, 0, none⟩) n n) n vn
  ho : wr.ownsRow (w.heap.size + 1) 22 1 out k vo
  rn : RowsI wr vn ((l.take k).foldl ckStep (ckStart n)).1
  ro : RowsI wr vo ((l.take k).foldl ckStep (ckStart n)).2
  hb : Below w.heap.size w wr
  sz : w.heap.size + 1 ≤ wr.heap.size
theorem PlayAt.below {w wr w' : World} {n : Nat} {l : List Ev} {k : Nat} {out : Value} {vn vo : List Value} (h : PlayAt w wr n l k out vn vo) (hb : Below wr.heap.size wr w') : PlayAt w w' n l k out vn vo :=
  ⟨owns_below h.hn hb, owns_below h.ho hb, h.rn.below hb, h.ro.below hb, h.hb.trans (hb.mono h.hb.size), Nat.le_trans h.sz hb.size⟩
theorem owns_base {w : World} {b b' : Nat} {e : TypeId} {sz n : Nat} {v : Value} {xs : List Value} (h : w.ownsRow b e sz v n xs) (hb : b' ≤ b) : w.ownsRow b' e sz v n xs := by
  obtain ⟨hl, h⟩ := h
  refine ⟨hl, ?_⟩
  rcases h with h | ⟨g, cap, cur, rfl, hg, r⟩
  · exact .inl h
  · exact .inr ⟨g, cap, cur, rfl, Nat.le_trans hb hg, r⟩
/-- A step of the play, as worlds. -/
theorem play_step {w w6 w9 w12 w13 : World} {n : Nat} {l : List Ev} {j : Nat} {x : Ev} {out out' vD : Value} {vn vo : List Value} {gc cp who : Nat} {c : List Int} {z : Int}
    (hP : PlayAt w w6 n l j out vn vo) (h9 : Below w6.heap.size w6 w9) (hc : w9.ownsRow w6.heap.size 3 1 (.slice (some ⟨gc, 0, none⟩) c.length cp) c.length (ints c)) (hwho : x.who.toNat = who)
    (hz : c.set who z = ckEv ((l.take j).foldl ckStep (ckStart n)).1 ((l.take j).foldl ckStep (ckStart n)).2 x)
    (hstep : (l.take (j + 1)).foldl ckStep (ckStart n) = ckStep ((l.take j).foldl ckStep (ckStart n)) x)
    (hb12 : Below ((w9.setCell ⟨gc, who, none⟩ (.int .i64 z)).setCell ⟨w.heap.size, who, none⟩ (.slice (some ⟨gc, 0, none⟩) c.length cp)).heap.size ((w9.setCell ⟨gc, who, none⟩ (.int .i64 z)).setCell ⟨w.heap.size, who, none⟩ (.slice (some ⟨gc, 0, none⟩) c.length cp)) w12)
    (hD : HasT w12 3 1 vD c.length (ints (c.set who z)))
    (ho13 : w13.ownsRow (w.heap.size + 1) 22 1 out' (j + 1) (vo ++ [vD])) (hg : w12.grownBy w13 out.ownBlock) (hb13 : Below (w.heap.size + 1) w12 w13) :
    PlayAt w w13 n l (j + 1) out' (vn.set who (.slice (some ⟨gc, 0, none⟩) c.length cp)) (vo ++ [vD]) := by
  obtain ⟨q1, q2, q3, q4, q5, q6⟩ := hP
  generalize hst : List.foldl ckStep (ckStart n) (List.take j l) = st at *
  have hP : PlayAt w w6 n l j out vn vo := ⟨q1, q2, by rw [hst]; exact q3, by rw [hst]; exact q4, q5, q6⟩
  have hgc : w6.heap.size ≤ gc ∧ gc < w9.heap.size := by
    obtain ⟨_, h⟩ := hc
    rcases h with ⟨h, _⟩ | ⟨g', cap', cur, he, hg', hh, _⟩
    · cases h
    · simp only [Value.slice.injEq, Option.some.injEq, Addr.mk.injEq, and_true, true_and] at he
      obtain ⟨rfl, rfl⟩ := he
      exact ⟨hg', (Array.getElem?_eq_some_iff.1 hh).1⟩
  have hP9 := hP.below h9
  have h10 : Below w6.heap.size w6 (w9.setCell ⟨gc, who, none⟩ (.int .i64 z)) := h9.setCell hgc.1 _
  have hP10 := hP.below h10
  have hc10 := owns_set hc who (.int .i64 z)
  obtain ⟨cs, hcs⟩ := owns_block_at hP10.hn
  have hch := Chg.setCell (T := [22]) (p := ⟨w.heap.size, who, none⟩) hcs (by simp) (.slice (some ⟨gc, 0, none⟩) c.length cp)
  have hn11 := owns_set hP10.hn who (.slice (some ⟨gc, 0, none⟩) c.length cp)
  have ho11 := ownsRow_setCell_below hP10.ho (a := ⟨w.heap.size, who, none⟩) (Nat.lt_succ_self _) (.slice (some ⟨gc, 0, none⟩) c.length cp)
  have rn11 := (hst ▸ hP10.rn : RowsI _ vn st.1).chg hch
  have ro11 := (hst ▸ hP10.ro : RowsI _ vo st.2).chg hch
  have hC11 := (HasT.of_owns hc10).chg hch (by decide)
  rw [ints_set] at hC11
  have ho12 := owns_below ho11 hb12
  have hg' := Chg.grown (T := [22]) ho12 hg (by simp)
  have hlen : c.length = (c.set who z).length := by simp
  refine ⟨owns_low (owns_below hn11 hb12) hb13 (Nat.lt_succ_self _), ho13, ?_, ?_, ?_, ?_⟩
  · rw [hstep]
    unfold ckStep
    simp only
    rw [hwho, ← hz]
    refine Each.set ((rn11.below hb12).chg hg') who ?_
    rw [← hlen]
    exact (hC11.below hb12).chg hg' (by decide)
  · rw [hstep]
    unfold ckStep
    simp only
    rw [← hz]
    refine Each.snoc ((ro11.below hb12).chg hg') ?_
    rw [← hlen]
    exact hD.chg hg' (by decide)
  · have h11 : Below w.heap.size w ((w9.setCell ⟨gc, who, none⟩ (.int .i64 z)).setCell ⟨w.heap.size, who, none⟩ (.slice (some ⟨gc, 0, none⟩) c.length cp)) :=
      (hP.hb.trans (h10.mono hP.hb.size)).setCell (Nat.le_refl _) _
    exact (h11.trans (hb12.mono h11.size)).trans (hb13.mono (by omega))
  · have := hP10.sz
    have e1 := hb12.size
    have e2 := hb13.size
    simp only [World.setCell, Array.size_modify] at e1 this
    omega
set_option maxRecDepth 100000 in
set_option maxHeartbeats 4000000 in
theorem cckPlay (n : Nat) (v : Value) (l : List Ev) (w : World) (h : Has w 3 v l.length (evs l)) (hok : EvsOk l) (hn : ∀ x ∈ l, x.who < n) (h1 : 1 ≤ n) (h8 : n ≤ 8) (hlen : l.length ≤ 200) :
    Calls Try.prog 29 #[.int .i64 n, v] w fun e w' => ∃ v' vs, e = .returned (.tuple #[v', .int .i64 0]) ∧ w'.ownsRow w.heap.size 22 1 v' l.length vs ∧ RowsI w' vs (ckPlay n l) ∧ Below w.heap.size w w' := by
  have mk1 := fun X => run_mk infoInts Try.underlying46 rfl X n (by omega) (by omega)
  have mk2 := fun X => run_mk infoInt Try.underlying22 rfl X n (by omega) (by omega)
  have Hok := Lib.hid hok
  have Hn := Lib.hid hn
  obtain ⟨⟨hl2, hnil⟩, ad, cap, rfl, hcn, hcm, hc⟩ := h
  have HH : Hid (∀ X, Below w.heap.size w X → Has X 3 (.slice ad l.length cap) l.length (evs l)) := fun X hX => Has.below ⟨⟨hl2, hnil⟩, ad, cap, rfl, hcn, hcm, hc⟩ hX
  have Hc := Lib.hid hc
  unfold maxLen at hcm
  clear hok hn hc hl2 hnil
  go_enter Try.func29, Try.ntmps29
  go_wp2_with fail
  go_loopw [7, 26] (fun _ i wr => ∃ (k : Nat) (vs : List Value), k ≤ n ∧ i = .int .i64 k ∧ wr.ownsRow w.heap.size 22 1 (.slice (some ⟨w.heap.size, 0, none⟩) n n) n vs ∧ RowsI wr (vs.take k) (List.replicate k (List.replicate n 0)) ∧ Below w.heap.size w wr ∧ w.heap.size + 1 ≤ wr.heap.size) (fun _ i _ => n - (intOf i).toNat)
  case atStart => exact ⟨0, List.replicate n (.slice none 0 0), by omega, rfl, owns_block (by first | exact heap_alloc_new _ _ | (simp only [heap_drew, heap_drewN]; exact heap_alloc_new _ _)) rfl (by simp) (by unfold maxLen; omega) (Nat.le_refl _), Each.nil _, (by repeat (first | exact Below.refl _ _ | refine Below.drew ?_ | refine Below.alloc ?_ (by first | (simp; done) | (simp; omega)) _ | refine Below.setCell ?_ (by first | (simp; done) | (simp; omega)) _)), by simp⟩
  case round =>
    obtain ⟨k, vs, hk, rfl, hown, hr, hb, hsz⟩ := hrel
    have Hown := Lib.hid hown
    have Hb := Lib.hid hb
    have Hr := Lib.hid hr
    by_cases hlt : k < n
    · obtain ⟨g', cp', he, hgg, hg3, hgf, hgc⟩ := owns_some hown (by omega)
      simp only [Value.slice.injEq, Option.some.injEq, Addr.mk.injEq, and_true, true_and] at he
      obtain ⟨rfl, rfl⟩ := he
      have hvl : vs.length = n := by have := hown.1; omega
      have hkv : k < vs.length := by omega
      have g2 := hgc k _ (List.getElem?_eq_getElem hkv)
      have fr := hgf k
      obtain ⟨cs0, hcs0⟩ := owns_block_at hown
      have Hcs := Lib.hid hcs0
      have Hkv := Lib.hid hkv
      generalize hvk : vs[k] = vk at *
      clear hgc hgf hown hb hr hcs0 hgg hvl hkv hvk
      go_wp2_with fail
      go_roundw
      case rel =>
        have hnew : (((wr.setCell ⟨w.heap.size, k, none⟩ (.slice (some ⟨wr.heap.size, 0, none⟩) n n)).alloc (.cells (List.replicate n (Value.int .i64 0)).toArray 3))).ownsRow wr.heap.size 3 1 (.slice (some ⟨wr.heap.size, 0, none⟩) n n) n (List.replicate n (Value.int .i64 0)) :=
          owns_block (wp := wr.setCell ⟨w.heap.size, k, none⟩ (.slice (some ⟨wr.heap.size, 0, none⟩) n n)) (heap_alloc_new _ _) (by simp [World.setCell]) (by simp) (by unfold maxLen; omega) (by simp [World.setCell])
        refine ⟨k + 1, vs.set k (.slice (some ⟨wr.heap.size, 0, none⟩) n n), by omega, by go_num, owns_below (owns_set Hown.out k _) ((Below.refl _ _).alloc (Nat.le_refl _) _), ?_, (Hb.out.setCell (Nat.le_refl _) _).alloc (by simp [World.setCell]; omega) _, by simp [World.setCell]; omega⟩
        rw [set_take _ _ _ Hkv.out, ← rep_snoc]
        refine Each.snoc (RowsI.below (Hr.out.chg (Chg.setCell Hcs.out (by simp) _)) ((Below.refl _ _).alloc (Nat.le_refl _) _)) ?_
        rw [← zeros_ints, List.length_replicate]
        exact HasT.of_owns hnew
      case measure => simp [intOf]; omega
    · obtain rfl : k = n := by omega
      have hvl : vs.length = k := by have := hown.1; omega
      rw [List.take_of_length_le (by omega)] at Hr
      have Hst : Hid (PlayAt w wr k l 0 (.slice none 0 0) vs []) := ⟨Hown.out, World.ownsRow_nil _ _ _ _, Hr.out, Each.nil _, Hb.out, hsz⟩
      clear hown hb hr hvl Hown Hb Hr hsz
      go_wp2_with fail
      go_loopw [8, 9, 10, 11, 12, 37] (fun out _ _ _ _ i wr => ∃ (j : Nat) (vn vo : List Value), j ≤ l.length ∧ i = .int .i64 j ∧ PlayAt w wr k l j out vn vo) (fun _ _ _ _ _ i _ => l.length - (intOf i).toNat)
      case atStart => exact ⟨0, vs, [], by omega, rfl, Hst.out⟩
      case round =>
        clear Hst
        obtain ⟨j, vn, vo, hj, rfl, hP⟩ := hrel
        have HP := Lib.hid hP
        clear hP
        by_cases hjl : j < l.length
        · obtain ⟨b, off, rfl, hcc⟩ := Hc.out (by simp [evs, flat_length Ev.cells 3 Ev.cells_length]; omega)
          have x0 := cell_on HP.out.hb (hcc (j * 3 + 0) (.int .i64 l[j].kind) (by unfold evs; rw [flat_get Ev.cells 3 Ev.cells_length l j hjl 0 (by omega)]; rfl))
          have x1 := cell_on HP.out.hb (hcc (j * 3 + 1) (.int .i64 l[j].who) (by unfold evs; rw [flat_get Ev.cells 3 Ev.cells_length l j hjl 1 (by omega)]; rfl))
          have x2 := cell_on HP.out.hb (hcc (j * 3 + 2) (.int .i64 l[j].of') (by unfold evs; rw [flat_get Ev.cells 3 Ev.cells_length l j hjl 2 (by omega)]; rfl))
          rw [Nat.add_zero] at x0
          rw [← Nat.add_assoc] at x1 x2
          have hbl := World.block_lt_of_cell? wr _ x0
          have Hx := Lib.hid (Hok.out j _ (List.getElem?_eq_getElem hjl))
          have hxn := Hn.out _ (List.getElem_mem hjl)
          have Hstep := Lib.hid (foldl_take ckStep (ckStart k) l j hjl)
          generalize l[j] = x at *
          obtain ⟨kd, wh, of'⟩ := x
          simp only at *
          clear hcc
          have Hev : Hid (∀ s1 s2, ckEv s1 s2 ⟨kd, wh, of'⟩ = (if kd = 3 then ckJoin (s1.getD wh.toNat []) (s2.getD of'.toNat []) else s1.getD wh.toNat []).set wh.toNat ((if kd = 3 then ckJoin (s1.getD wh.toNat []) (s2.getD of'.toNat []) else s1.getD wh.toNat []).getD wh.toNat 0 + 1)) := fun _ _ => rfl
          have hinv := Lib.hid (ckFold_ok k l Hok.out Hn.out j hj)
          go_upto_region 15 with (fail)
          have hbx : Below wr.heap.size wr (wr.alloc (.cells #[.int .i64 kd, .int .i64 wh, .int .i64 of'] 69)) := (Below.refl _ _).alloc (Nat.le_refl _) _
          have HP2 := Lib.hid (HP.out.below hbx)
          have px0 : (wr.alloc (.cells #[.int .i64 kd, .int .i64 wh, .int .i64 of'] 69)).cell? ⟨wr.heap.size, 0, none⟩ = some (.int .i64 kd) := by rw [World.cell?_alloc_at _ _ _ _ rfl]; rfl
          have px1 : (wr.alloc (.cells #[.int .i64 kd, .int .i64 wh, .int .i64 of'] 69)).cell? ⟨wr.heap.size, 1, none⟩ = some (.int .i64 wh) := by rw [World.cell?_alloc_at _ _ _ _ rfl]; rfl
          have px2 : (wr.alloc (.cells #[.int .i64 kd, .int .i64 wh, .int .i64 of'] 69)).cell? ⟨wr.heap.size, 2, none⟩ = some (.int .i64 of') := by rw [World.cell?_alloc_at _ _ _ _ rfl]; rfl
          generalize wr.alloc (.cells #[.int .i64 kd, .int .i64 wh, .int .i64 of'] 69) = W2 at *
          have hpxw : w.heap.size < wr.heap.size := by have := HP.out.sz; omega
          generalize wr.heap.size = px at *
          have Codd : Hid (∀ X : Ext W2, Calls Try.prog 42 #[.int .i64 k, .slice (some ⟨b, off, none⟩) j cap, .agg #[.int .i64 kd, .int .i64 wh, .int .i64 of']] X.1 fun e w' => e = .returned (.int .i64 0) ∧ Below X.1.heap.size X.1 w') := fun X => by
            have h3 := HH.out X.1 (HP2.out.hb.trans (X.2.mono HP2.out.hb.size))
            have h4 := h3.pre j hj (by simp)
            rw [evs, flat_take Ev.cells 3 Ev.cells_length] at h4
            have e : (l.take j).length = j := by simp; omega
            exact codd k _ (l.take j) ⟨kd, wh, of'⟩ X.1 (by rw [e]; exact h4) Hx.out hxn h8
          have p0 := ext_cell px0
          have p1 := ext_cell px1
          have p2 := ext_cell px2
          have PX0 := Lib.hid px0
          have PX1 := Lib.hid px1
          have PX2 := Lib.hid px2
          clear px0 px1 px2 x0 x1 x2 hbx HP
          refine wp_region_grow (by kernel_rfl) (by kernel_rfl) ?_
          repeat (go_big_quiet_step ((go_at_call 42; with_reducible exact grow_of (Codd.out _))))
          refine wpQuiet_nil ?_
          intro w6 hb6
          clear p0 p1 p2
          have HP6 := Lib.hid (HP2.out.below hb6)
          have p0 := cell_on hb6 PX0.out
          have p1 := cell_on hb6 PX1.out
          have p2 := cell_on hb6 PX2.out
          have p1w6 := Lib.hid p1
          clear PX0 PX1 PX2 HP2 hb6 Codd
          obtain ⟨_, _, hw0, _, hof⟩ := Hx.out
          simp only at hw0
          obtain ⟨who, rfl⟩ := Int.eq_ofNat_of_zero_le hw0
          have hwk : who < k := by omega
          obtain ⟨st, hst⟩ : ∃ st, (l.take j).foldl ckStep (ckStart k) = st := ⟨_, rfl⟩
          have hnl : who < st.1.length := by rw [← hst, hinv.out.nows]; exact hwk
          obtain ⟨vc, hvc, hvr⟩ := Each.get (hst ▸ HP6.out.rn) who hnl
          have hcl : st.1[who].length = k := by
            have := hinv.out.now who st.1[who] (by rw [hst]; exact List.getElem?_eq_getElem hnl)
            exact this.1.1
          have hgd : st.1.getD who [] = st.1[who] := by simp [List.getD_eq_getElem?_getD, hnl]
          obtain ⟨g', cp', he, hgg, hg3, hgf, hgc⟩ := owns_some HP6.out.hn (by omega)
          simp only [Value.slice.injEq, Option.some.injEq, Addr.mk.injEq, and_true, true_and] at he
          obtain ⟨rfl, rfl⟩ := he
          have n1 := hgc who _ hvc
          have f1 := hgf who
          have Hevx := Lib.hid (Hev.out st.1 st.2)
          simp only [Int.toNat_natCast, hgd] at Hevx
          have HC := Lib.hid (cclone_int vc st.1[who].length (ints st.1[who]) w6 hvr.has (ints_one _) (by omega))
          generalize hc0 : st.1[who] = c0 at *
          have Hcl := Lib.hid hcl
          have Hst := Lib.hid hst
          clear hgc hgf hgd hvc hvr hnl hgg hcl hst hc0 hw0
          have Hz := Lib.hid (ckEv_ok hinv.out ⟨kd, who, of'⟩ Hx.out hxn).2
          rw [Hst.out] at Hz
          simp only [Int.toNat_natCast] at Hz
          have hcnt := evCount_le (l.take j ++ [⟨kd, who, of'⟩]) who
          have hcnt2 : (l.take j ++ [(⟨kd, who, of'⟩ : Ev)]).length ≤ 201 := by simp; omega
          by_cases hk3 : kd = 3
          case' pos =>
            subst hk3
            obtain ⟨hof0, hof1, _⟩ := hof rfl
            simp only [if_true] at Hevx
            obtain ⟨oo, rfl⟩ := Int.eq_ofNat_of_zero_le hof0
            have hoj : oo < j := by simp at hof1; omega
            simp only [Int.toNat_natCast] at Hevx
            have hol : oo < st.2.length := by rw [← Hst.out, hinv.out.outs]; simp; omega
            obtain ⟨vq, hvq, hqr⟩ := Each.get (Hst.out ▸ HP6.out.ro) oo hol
            have hql : st.2[oo].length = k := by
              have hxo : oo < (l.take j).length := by simp; omega
              have := hinv.out.out oo st.2[oo] (l.take j)[oo] (by rw [Hst.out]; exact List.getElem?_eq_getElem hol) (List.getElem?_eq_getElem hxo)
              exact this.1.1
            have hgd : st.2.getD oo [] = st.2[oo] := by simp [List.getD_eq_getElem?_getD, hol]
            rw [hgd] at Hevx
            obtain ⟨go, cpo, rfl, hgg, hg4, hgf, hgc⟩ := owns_some HP6.out.ho (by omega)
            have o1 := hgc oo _ hvq
            generalize hq0 : st.2[oo] = q at *
            have Hql := Lib.hid hql
            have Hqr := Lib.hid hqr
            clear hgc hgf hgd hvq hqr hol hgg hql hq0 hof hof0 hof1
            go_wp2_with fail
            refine HC.out.mono ?_
            rintro e w7 ⟨vcl, rfl, hown, hb7⟩
            obtain ⟨g7, cp7, rfl, -⟩ := owns_some hown (by have := Hcl.out; omega)
            have h7 := Has.of_owns hown
            replace p0 := cell_on hb7 p0
            replace p1 := cell_on hb7 p1
            replace p2 := cell_on hb7 p2
            replace o1 := cell_on hb7 o1
            have Hq7 := Lib.hid (Hqr.out.below hb7)
            have HJ := Lib.hid (cjoined _ vq c0 q w7 h7 Hq7.out.has (by have := Hcl.out; have := Hql.out; omega) (by have := Hcl.out; omega) (by have := Hcl.out; omega))
            have H7 := Lib.hid hb7
            clear hown hb7 h7 Hqr HC Hq7
            go_wp2_with fail
            refine HJ.out.mono ?_
            rintro e w9 ⟨vcl, rfl, hown, hb9⟩
            have hcl9 : (ckJoin c0 q).length = k := by have := Hcl.out; have := Hql.out; simp; omega
            obtain ⟨gc, cp, rfl, -⟩ := owns_some hown (by omega)
            have HC9 := Lib.hid (owns_base hown H7.out.size)
            have H9 : Hid (Below w6.heap.size w6 w9) := H7.out.trans (hb9.mono H7.out.size)
            replace p1 := cell_on hb9 p1
            generalize ckJoin c0 q = c at *
            clear hown hb9 H7 HJ Hcl Hql p0 p2 o1
            have Hcl := Lib.hid hcl9
            clear hcl9
          case' neg =>
            have hk3' : (kd == 3) = false := by simpa using hk3
            rw [if_neg hk3] at Hevx
            clear hof
            go_wp2_with fail
            refine HC.out.mono ?_
            rintro e w9 ⟨vcl, rfl, hown, hb9⟩
            obtain ⟨gc, cp, rfl, -⟩ := owns_some hown (by have := Hcl.out; omega)
            have HC9 := Lib.hid hown
            have H9 := Lib.hid hb9
            replace p0 := cell_on hb9 p0
            replace p1 := cell_on hb9 p1
            generalize c0 = c at *
            clear hown hb9 HC p2 hk3
          all_goals
            have hwc : who < c.length := by have := Hcl.out; omega
            obtain ⟨g', cp', he, hgg, hg9, hgf, hgc⟩ := owns_some HC9.out (by omega)
            simp only [Value.slice.injEq, Option.some.injEq, Addr.mk.injEq, and_true, true_and] at he
            obtain ⟨rfl, rfl⟩ := he
            have c1 := hgc who _ (ints_get c who hwc)
            have cf := hgf who
            have hgd : c.getD who 0 = c[who] := by simp [List.getD_eq_getElem?_getD, hwc]
            have hgz : (c.set who (c[who] + 1)).getD who 0 = c[who] + 1 := by simp [List.getD_eq_getElem?_getD, hwc]
            rw [hgd] at Hevx
            rw [Hevx.out, hgz] at Hz
            have hz0 : 0 ≤ c[who] + 1 ∧ c[who] + 1 ≤ 201 := by rw [Hz.out]; omega
            have n9 := cell_on H9.out n1
            have hP9 := HP6.out.below H9.out
            obtain ⟨g', cp', he, hgg', hg9', hgf', hgc'⟩ := owns_some hP9.hn (by omega)
            simp only [Value.slice.injEq, Option.some.injEq, Addr.mk.injEq, and_true, true_and] at he
            obtain ⟨rfl, rfl⟩ := he
            have nf := hgf' who
            have hne : w.heap.size ≠ gc := by have := HP6.out.sz; omega
            have hpx9 := World.block_lt_of_cell? w9 _ p1
            have hpx6 : px < w6.heap.size := World.block_lt_of_cell? w6 _ p1w6.out
            have hpxg : px ≠ gc := by omega
            have hpxn : px ≠ w.heap.size := by omega
            have Hcw : Hid (ckEv st.1 st.2 ⟨_, (who : Int), _⟩ = c.set who (c[who] + 1)) := Hevx
            generalize c[who] = z at *
            clear hgf hgc hgf' hgc' hP9 hgg hgg' hgd hgz n1 f1 Hz hcnt hcnt2 Hevx hpx6
            go_upto_region 23 with (fail)
            have hgcw : w6.heap.size ≤ gc := by
              obtain ⟨g', cp', he, hgg, -⟩ := owns_some HC9.out (by omega)
              simp only [Value.slice.injEq, Option.some.injEq, Addr.mk.injEq, and_true, true_and] at he
              obtain ⟨rfl, rfl⟩ := he
              exact hgg
            have h11 := ownsRow_setCell_below (owns_set HC9.out who (.int .i64 (z + 1))) (a := ⟨w.heap.size, who, none⟩) (show w.heap.size < w6.heap.size by have := HP6.out.sz; omega) (.slice (some ⟨gc, 0, none⟩) c.length cp)
            rw [ints_set] at h11
            have h11' := Has.of_owns h11
            clear c1 cf n9 nf h11
            go_wp2_with fail
            refine (cclone_int _ c.length (ints (c.set who (z + 1))) _ h11' (ints_one _) (by have := Hcl.out; omega)).mono ?_
            rintro e w12 ⟨vD, rfl, hown, hb12⟩
            obtain ⟨aD, capD, rfl⟩ := owns_slice hown
            have HD := Lib.hid (HasT.of_owns hown)
            have ho12 := Lib.hid (owns_below (ownsRow_setCell_below (owns_below HP6.out.ho (H9.out.setCell (p := ⟨gc, who, none⟩) hgcw (.int .i64 (z + 1)))) (a := ⟨w.heap.size, who, none⟩) (Nat.lt_succ_self _) (.slice (some ⟨gc, 0, none⟩) c.length cp)) hb12)
            have hsz12 : w.heap.size + 1 ≤ w12.heap.size := by
              have e1 := hb12.size
              have e2 := HP6.out.sz
              have e3 := H9.out.size
              simp only [World.setCell, Array.size_modify] at e1
              omega
            have Hb12 := Lib.hid hb12
            clear hown hb12 h11' hz0 hne hpx9 hpxg hpxn
            go_wp2_with (at_builtin; refine wp_app1 (w0 := w12) 46 22 1 24 _ elInts Try.underlying46 (w.heap.size + 1) _ _ _ ho12.out (by repeat (first | exact Below.refl _ _ | refine Below.drew ?_ | refine Below.alloc ?_ (by first | (simp; done) | (simp; omega)) _ | refine Below.setCell ?_ (by first | (simp; done) | (simp; omega)) _)) [.slice aD c.length capD] rfl _ _ rfl rfl rfl (by first | exact heap_alloc_new _ _ | (simp only [heap_drew, heap_drewN]; exact heap_alloc_new _ _)) (by simp) rfl rfl (by omega) (by omega) hsz12 ?_; intro v13 w13 hown13 hgrow13 hb13)
            go_roundw
            case rel => exact ⟨j + 1, _, _, by omega, by go_num, play_step HP6.out H9.out HC9.out (Int.toNat_natCast who) (by rw [Hst.out]; exact Hcw.out.symm) Hstep.out Hb12.out HD.out hown13 hgrow13 hb13⟩
            case measure => simp [intOf]; omega
        · obtain rfl : j = l.length := by omega
          have ho := Lib.hid (owns_base HP.out.ho (Nat.le_succ _))
          have hr : Hid (RowsI wr vo (ckPlay k l)) := by
            have := HP.out.ro
            rw [List.take_length] at this
            exact this
          have hB := Lib.hid HP.out.hb
          clear HP
          go_wp2
          go_ret2
          exact ⟨_, vo, rfl, ho.out, hr.out, hB.out⟩
end Go.Proofs.Ytkeefpeffeoakaa
