/- Texts that the claim imports, laid together: WPlay. No statement of their own. -/
import Derived.Test.YtjdedflfdlhkdaaGreatDoorKan
namespace Go.Proofs.YtjdedflfdlhkdaaGreatDoor
open Go.ChangeShapes Go.WideShapes Go.ChangeAt Go.RowKit
set_option linter.unusedVariables false
set_option linter.unusedSimpArgs false

def BegunOk : Prop := ∀ {w : World} {c : Cfg} {vl vm : Value}, c.Ok → CfgAt w c vl vm → InF (fun b => b < w.heap.size) vl → InF (fun b => b < w.heap.size) vm → OrdVar w → 0 < w.heap.size →
    Calls Tryz.prog 44 #[.agg (c.cells vl vm)] w fun e w' => ∃ X own, e = .returned (.pointer (some ⟨X.W, 0, none⟩)) ∧ WAt w' c X own 0 (wld0 c) ∧ (∀ b, b < w.heap.size → own b = none) ∧ Below w.heap.size w w'
def StepOk : Prop := ∀ {w : World} {c : Cfg} {X : Adr} {own : Own} {N K : Nat} {s : Wld}, c.Ok → WAt w c X own N s → WOk c K s → K ≤ 1000 → N ≤ 999900 → ∀ p : Stp,
    Calls Tryz.prog 45 #[.pointer (some ⟨X.W, 0, none⟩), p.val] w (Stepped w c X own (N + 20) (s.step c p))
theorem gone_below {w w1 wr : World} {own1 own' : Own} {c : Cfg} {X : Adr} {N : Nat} {s : Wld} (g : Gone w1 own1 wr c X own' N s) (hb : Below w.heap.size w w1) (hn : ∀ b, b < w.heap.size → own1 b = none) : Below w.heap.size w wr :=
  ⟨g.go.wr.os.trans hb.os, g.go.wr.tape.trans hb.tape, g.go.wr.output.trans hb.output, Nat.le_trans hb.size g.go.wr.size, fun b hb1 => by
    rw [g.go.wr.block b (Nat.lt_of_lt_of_le hb1 hb.size) (fun ⟨t, ht, _⟩ => by rw [hn b hb1] at ht; cases ht)]; exact hb.block b hb1⟩
theorem stps_get (l : List Stp) (k j : Nat) (hk : k < l.length) (hj : j < 8) : (stps l)[k * 8 + j]? = l[k].cells[j]? := by
  unfold stps
  induction l generalizing k with
  | nil => simp at hk
  | cons a t ih =>
    rw [List.flatMap_cons]
    cases k with
    | zero => rw [Nat.zero_mul, Nat.zero_add, List.getElem?_append_left (by simp [Stp.cells]; omega)]; rfl
    | succ k =>
      have e : a.cells.length = 8 := rfl
      rw [List.getElem?_append_right (by rw [e]; omega), e, show (k + 1) * 8 + j - 8 = k * 8 + j by omega, ih k (by simpa using hk)]
      rfl
set_option maxRecDepth 100000 in
set_option maxHeartbeats 8000000 in
theorem cPlay0 (HB : BegunOk) (HS : StepOk) {w : World} {c : Cfg} {vl vm : Value} (hc : c.Ok) (hcfg : CfgAt w c vl vm) (hl : InF (fun b => b < w.heap.size) vl) (hm : InF (fun b => b < w.heap.size) vm) (ho : OrdVar w) (h0 : 0 < w.heap.size)
    (v : Value) (l : List Stp) (hv : Has w 8 v l.length (stps l)) (hvi : InF (fun b => b < w.heap.size) v) (hlen : l.length ≤ 300) :
    Calls Tryz.prog 33 #[.agg (c.cells vl vm), v] w fun e w' => ∃ out X own sv fv rv N, e = .returned (.tuple #[out, .pointer (some ⟨X.W, 0, none⟩), .int .i64 0]) ∧ WAt w' c X own N (wFold c l).1 ∧ OutAt w' own w.heap.size out (wFold c l).2 sv fv rv ∧ (∀ b, b < w.heap.size → own b = none) ∧ Below w.heap.size w w' := by
  have hbx := cfg_box w c vl vm
  obtain ⟨x0, x1, x2, x3, x4⟩ := cfg_at (heap_alloc_new w (.cells (c.cells vl vm) 25))
  have hsb : w.heap.size ≤ (w.alloc (.cells (c.cells vl vm) 25)).heap.size := hbx.size
  have HCF := Lib.hid (hcfg.on hbx)
  have KM := Lib.hid (fun (Y : World) (hY : CfgAt Y c vl vm) => cFMay hc hY)
  have HC := Lib.hid hc
  have HBX := Lib.hid hbx
  have HBG : Hid (∀ Y, Below w.heap.size w Y → CfgAt Y c vl vm → _) := fun Y hY hcY => HB (w := Y) hc hcY (hl.mono fun b hb => Nat.lt_of_lt_of_le hb hY.size) (hm.mono fun b hb => Nat.lt_of_lt_of_le hb hY.size) (ho.kept (hY.block 0 h0)) (Nat.lt_of_lt_of_le h0 hY.size)
  have HST : Hid StepOk := HS
  have HV : Hid (∀ Y, Below w.heap.size w Y → Has Y 8 v l.length (stps l)) := fun Y hY => hv.kept hvi fun b _ hb => hY.block b hb
  obtain ⟨_, va, vc, rfl, hv1, hv2, _⟩ := hv
  unfold maxLen at hv2
  have hlz : decide (300 < (l.length : Int)) = false := by simp; omega
  obtain ⟨_, la, cl, rfl, _⟩ := hcfg.hl
  obtain ⟨_, ma, cm, rfl, _⟩ := hcfg.hm
  unfold Cfg.cells at *
  clear hc hcfg hl hm ho hvi hbx HS HB
  go_enter Tryz.func33, Tryz.ntmps33
  go_upto_region 1 with (fail)
  generalize (w.alloc (.cells #[.int .i64 c.n, .slice la c.labs.length cl, .int .i64 c.ticks, .slice ma c.minted.length cm, .int .i64 c.cap] 25)) = W1 at *
  go_wp2_with fail
  refine (KM.out _ HCF.out).mono ?_
  rintro e w1 ⟨rfl, hb1⟩
  replace HCF := Lib.hid (HCF.out.on hb1)
  have hb01 : Below w.heap.size w w1 := HBX.out.trans (hb1.mono hsb)
  have CB := Lib.hid (HBG.out _ hb01 HCF.out)
  replace x0 := cell_on hb1 x0
  replace x1 := cell_on hb1 x1
  replace x2 := cell_on hb1 x2
  replace x3 := cell_on hb1 x3
  replace x4 := cell_on hb1 x4
  have HB01 := Lib.hid hb01
  clear KM hb1 hb01 HBX HBG hsb
  go_wp2_with fail
  refine CB.out.mono ?_
  rintro e w2 ⟨X, own2, rfl, hW2, hn2, hb2⟩
  have HG0 := Lib.hid (Gone.start hW2)
  have HB02 : Hid (Below w.heap.size w w2) := HB01.out.trans (hb2.mono HB01.out.size)
  have HN2 : Hid (∀ b, b < w.heap.size → own2 b = none) := fun b hb => hn2 b (Nat.lt_of_lt_of_le hb HB01.out.size)
  clear hW2 hn2 hb2 CB x0 x1 x2 x3 x4 HCF HB01
  have hw1r : Hid (w.heap.size ≤ w2.heap.size) := HB02.out.size
  go_wp2_with fail
  go_loopw [8, 10, 21] (fun out _ j wr => ∃ (k : Nat) (own' : Own) (sv fv rv : Nat → Value) (N : Nat), k ≤ l.length ∧ j = .int .i64 k ∧ N ≤ 20 * k ∧ Hid (Gone w2 own2 wr c X own' N (wFold c (l.take k)).1) ∧ Hid (OutAt wr own' w2.heap.size out (wFold c (l.take k)).2 sv fv rv)) (fun _ _ j _ => l.length - (intOf j).toNat)
  case atStart => exact ⟨0, own2, fun _ => nil0, fun _ => nil0, fun _ => nil0, 0, by omega, rfl, by omega, HG0, ⟨World.ownsRow_nil _ _ _ _, (fun g hg => by cases hg), fun i hi => absurd hi (Nat.not_lt_zero i)⟩⟩
  case round =>
    clear HG0
    obtain ⟨k, own3, sv, fv, rv, N, hk, rfl, hN, HG, HO⟩ := hrel
    have hol : Hid ((wFold c (l.take k)).2.length = k) := by show _ = _; rw [wFold_len, List.length_take]; omega
    obtain ⟨oa, oc, rfl⟩ := owns_slice HO.out.row
    by_cases hlt : k < l.length
    · have hltz : (k : Int) < (l.length : Int) := by omega
      have hbr := gone_below HG.out HB02.out HN2.out
      obtain ⟨⟨hl0, _⟩, _, _, he, _, _, hcc⟩ := HV.out _ hbr
      simp only [Value.slice.injEq] at he
      obtain ⟨rfl, -, rfl⟩ := he
      obtain ⟨b, o, rfl, hcell⟩ := hcc (by rw [hl0]; omega)
      have zz : ∀ j u, j < 8 → l[k].cells[j]? = some u → wr.cell? ⟨b, o + k * 8 + j, none⟩ = some u := fun j u hj hu => by
        rw [Nat.add_assoc]; exact hcell _ u (by rw [stps_get l k j hlt hj]; exact hu)
      have z0 := zz 0 _ (by omega) rfl
      have z1 := zz 1 _ (by omega) rfl
      have z2 := zz 2 _ (by omega) rfl
      have z3 := zz 3 _ (by omega) rfl
      have z4 := zz 4 _ (by omega) rfl
      have z5 := zz 5 _ (by omega) rfl
      have z6 := zz 6 _ (by omega) rfl
      have z7 := zz 7 _ (by omega) rfl
      rw [Nat.add_zero] at z0
      have hsn : Hid (wFold c (l.take (k + 1)) = (((wFold c (l.take k)).1.step c l[k]).2, (wFold c (l.take k)).2 ++ [((wFold c (l.take k)).1.step c l[k]).1])) := by
        show _ = _
        rw [List.take_succ_eq_append_getElem hlt, wFold_snoc]
      have HOK := Lib.hid (wFold_ok c HC.out l k (by omega) (by omega))
      have CS : Hid (∀ Y, Below wr.heap.size wr Y → _) := fun Y hY => HST.out HC.out (HG.out.on hY).at' HOK.out (by omega) (by omega) l[k]
      unfold Stp.val Stp.cells at CS
      generalize hp : l[k] = p at *
      obtain ⟨kind, who, item, count, life, id, label, key⟩ := p
      simp only at z0 z1 z2 z3 z4 z5 z6 z7 CS
      clear hl0 hcc hcell zz hbr hp
      go_wp2_with fail
      refine (CS.out _ (by repeat (first | exact Below.refl _ _ | refine Below.drew ?_ | refine Below.alloc ?_ (by first | (simp; done) | (simp; omega)) _ | refine Below.setCell ?_ (by first | (simp; done) | (simp; omega)) _))).mono ?_
      rintro e w5 hs5
      have hg5 := hs5.got
      generalize (wFold c (l.take k)).1.step c ⟨kind, who, item, count, life, id, label, key⟩ = r at *
      generalize (wFold c (l.take k)).2 = tl at *
      obtain ⟨⟨tc, tw, ⟨kc, ki, kf, kh, ku⟩, tv, ts, tf, tr⟩, s'⟩ := r
      simp only at hg5
      obtain ⟨own5, sa, sc, fa, fc, ra, rc, rfl, ht5, hW5, hU5⟩ := hg5
      have hkl : tl.length ≤ 300 := by rw [hol.out]; omega
      have HG5 := Lib.hid ((HG.out.on (by repeat (first | exact Below.refl _ _ | refine Below.drew ?_ | refine Below.alloc ?_ (by first | (simp; done) | (simp; omega)) _ | refine Below.setCell ?_ (by first | (simp; done) | (simp; omega)) _))).step hW5 hU5)
      have HO5 := Lib.hid ((HO.out.on (by repeat (first | exact Below.refl _ _ | refine Below.drew ?_ | refine Below.alloc ?_ (by first | (simp; done) | (simp; omega)) _ | refine Below.setCell ?_ (by first | (simp; done) | (simp; omega)) _)) HG.out.at'.lt).went hU5)
      have HT5 := Lib.hid ht5.1
      have HF5 : Hid (∀ g, (Value.slice oa tl.length oc).ownBlock = some g → Off3 g (.slice sa ts.length sc) (.slice fa tf.length fc) (.slice ra tr.length rc)) := fun g hg => ht5.2.off (Nat.lt_of_lt_of_le (owns_block_of HO.out.row hg).2.1 (Below.size (B := wr.heap.size) (by repeat (first | exact Below.refl _ _ | refine Below.drew ?_ | refine Below.alloc ?_ (by first | (simp; done) | (simp; omega)) _ | refine Below.setCell ?_ (by first | (simp; done) | (simp; omega)) _))))
      have HROW := Lib.hid (own_base HO5.out.row)
      have hB5 : Hid (w2.heap.size ≤ w5.heap.size) := HG5.out.go.wr.size
      clear hs5 ht5 hW5 hU5 CS HG HO z0 z1 z2 z3 z4 z5 z6 z7
      go_wp2_with (first | fail | (at_builtin; refine wp_appF (w0 := w5) 51 57 11 136 _ elTold Tryz.underlying51 (.slice oa tl.length oc) tl.length (tldsC tl sv fv rv) HROW.out (by repeat (first | exact Below.refl _ _ | refine Below.drew ?_ | refine Below.alloc ?_ (by first | (simp; done) | (simp; omega)) _ | refine Below.setCell ?_ (by first | (simp; done) | (simp; omega)) _)) _ 1 [.int .i64 tc, .int .i64 tw, .int .i64 kc, .int .i64 ki, .int .i64 kf, .int .i64 kh, .int .i64 ku, .int .i64 tv, .slice sa ts.length sc, .slice fa tf.length fc, .slice ra tr.length rc] (has_block (wp := w5) (by first | exact heap_alloc_new _ _ | (simp only [heap_drew, heap_drewN]; exact heap_alloc_new _ _)) rfl (by rfl) (by decide)) rfl _ _ rfl rfl rfl (by simp [Value.oneCell']) (by omega) (by unfold maxLen; omega) ?_; intro v6 w6 hown6 hat6 hgrow6; obtain ⟨a6, c6, rfl⟩ := owns_slice hown6))
      have HG6 := Lib.hid (HG5.out.grown (v := .slice oa tl.length oc) (fun b hb => ⟨(owns_block_of HO5.out.row hb).1, HO5.out.free b hb⟩) hgrow6)
      have HO6 := Lib.hid (HO5.out.snoc HG5.out.at'.lt hB5.out ⟨tc, tw, ⟨kc, ki, kf, kh, ku⟩, tv, ts, tf, tr⟩ HT5.out HF5.out hown6 hat6 hgrow6)
      clear hown6 hat6 hgrow6 HG5 HO5 HT5 HF5 HROW
      go_roundw
      case rel =>
        refine ⟨k + 1, own5, updF sv tl.length (.slice sa ts.length sc), updF fv tl.length (.slice fa tf.length fc), updF rv tl.length (.slice ra tr.length rc), N + 20, by omega, by go_num, by omega, ?_, ?_⟩
        · show Gone _ _ _ _ _ _ _ _
          rw [hsn.out]; exact HG6.out
        · show OutAt _ _ _ _ _ _ _ _
          rw [hsn.out]; exact HO6.out
      case measure => first | (simp [intOf]; done) | (simp [intOf]; omega)
    · obtain rfl : k = l.length := by omega
      rw [List.take_of_length_le (Nat.le_refl _)] at HG HO ⊢
      go_wp2_with fail
      go_ret3
      exact ⟨_, X, own3, sv, fv, rv, N, rfl, HG.out.at', ⟨owns_base HO.out.row hw1r.out, HO.out.free, HO.out.each⟩, fun b hb => by rw [HG.out.go.same b (Nat.lt_of_lt_of_le hb hw1r.out)]; exact HN2.out b hb, gone_below HG.out HB02.out HN2.out⟩
end Go.Proofs.YtjdedflfdlhkdaaGreatDoor
