/- Texts that the claim imports, laid together: WStep WPlayA WSend FrmL. No statement of their own. -/
import Derived.Test.YtjdedflfdlhkdaaGreatDoorKae
import Derived.Test.YtjdedflfdlhkdaaGreatDoorKag
import Derived.Test.YtjdedflfdlhkdaaGreatDoorKam
namespace Go.Proofs.YtjdedflfdlhkdaaGreatDoor
open Go.ChangeShapes Go.WideShapes Go.ChangeAt Go.RowKit
set_option linter.unusedVariables false
set_option linter.unusedSimpArgs false

/-- What a method of the world comes to. -/
abbrev StpOk (c : Cfg) (X : Adr) (N : Nat) (f : FuncId) (args : List Value) (M : Nat) (s : Wld) (r : Tld × Wld) : Prop := ∀ (Y : World) (own : Own), WAt Y c X own N s → Calls Tryz.prog f args.toArray Y (Stepped Y c X own M r)
section
variable {w W Y w5 : World} {own own5 : Own} {c : Cfg} {X : Adr} {N : Nat} {s s2 : Wld} {g R R1 R2 : Nat} {o o1 o2 : Obj} {a0 a1 a2 a3 a4 a5 a6 a7 a8 a9 a10 : Value} {e : TypeId}
theorem box11_set (hg : Gone w own w5 c X own5 N s) (m1 : Mine own5 w5 R1 o1) (m2 : Mine own5 w5 R2 o2) (mg : Mine own5 w5 g (.cells #[a0, a1, a2, a3, a4, a5, a6, a7, a8, a9, a10] e (0, 0))) (h1 : w.heap.size ≤ g) (n1 : R1 ≠ g) (n2 : R2 ≠ g) (x0 x1 x2 x3 x4 x5 x6 x7 x8 x9 x10 : Value) :
    Gone w own (put11 w5 g x0 x1 x2 x3 x4 x5 x6 x7 x8 x9 x10) c X own5 N s ∧ Mine own5 (put11 w5 g x0 x1 x2 x3 x4 x5 x6 x7 x8 x9 x10) R1 o1 ∧ Mine own5 (put11 w5 g x0 x1 x2 x3 x4 x5 x6 x7 x8 x9 x10) R2 o2 ∧ Mine own5 (put11 w5 g x0 x1 x2 x3 x4 x5 x6 x7 x8 x9 x10) g (.cells #[x0, x1, x2, x3, x4, x5, x6, x7, x8, x9, x10] e (0, 0)) :=
  ⟨hg.set11 h1 mg.ho _ _ _ _ _ _ _ _ _ _ _, m1.other11 n1 _ _ _ _ _ _ _ _ _ _ _, m2.other11 n2 _ _ _ _ _ _ _ _ _ _ _, mg.put11 _ _ _ _ _ _ _ _ _ _ _⟩
theorem box11_new (hg : Gone w own w5 c X own5 N s) (m1 : Mine own5 w5 R1 o1) (m2 : Mine own5 w5 R2 o2) (x0 x1 x2 x3 x4 x5 x6 x7 x8 x9 x10 : Value) (e : TypeId) :
    Gone w own (w5.alloc (.cells #[x0, x1, x2, x3, x4, x5, x6, x7, x8, x9, x10] e)) c X own5 N s ∧ Mine own5 (w5.alloc (.cells #[x0, x1, x2, x3, x4, x5, x6, x7, x8, x9, x10] e)) R1 o1 ∧ Mine own5 (w5.alloc (.cells #[x0, x1, x2, x3, x4, x5, x6, x7, x8, x9, x10] e)) R2 o2 ∧ Mine own5 (w5.alloc (.cells #[x0, x1, x2, x3, x4, x5, x6, x7, x8, x9, x10] e)) w5.heap.size (.cells #[x0, x1, x2, x3, x4, x5, x6, x7, x8, x9, x10] e (0, 0)) := by
  have hb : Below w5.heap.size w5 (w5.alloc (.cells #[x0, x1, x2, x3, x4, x5, x6, x7, x8, x9, x10] e)) := (Below.refl _ _).alloc (Nat.le_refl _) _
  exact ⟨hg.on hb, m1.on hb, m2.on hb, hg.none (Nat.le_refl _), heap_alloc_new _ _⟩
theorem mine_new2 (hG : Gone w own W c X own N s) (hb : Below W.heap.size W Y) (hn : Y.heap[W.heap.size]? = some o) (hU : Went own own5 Y w5) : Mine own5 w5 W.heap.size o :=
  Mine.went (w := Y) ⟨hG.none (Nat.le_refl _), hn⟩ hU
/-- None of it lies in a block. -/
def Off3 (g : Nat) (sv fv rv : Value) : Prop := InF (fun b => b ≠ g) sv ∧ InF (fun b => b ≠ g) fv ∧ InF (fun b => b ≠ g) rv
theorem Far.off {w : World} {sv fv rv : Value} (h : Far w sv fv rv) {g : Nat} (hg : g < w.heap.size) : Off3 g sv fv rv :=
  ⟨h.1.mono fun b hb => Nat.ne_of_gt (Nat.lt_of_lt_of_le hg hb), h.2.1.mono fun b hb => Nat.ne_of_gt (Nat.lt_of_lt_of_le hg hb), h.2.2.mono fun b hb => Nat.ne_of_gt (Nat.lt_of_lt_of_le hg hb)⟩
theorem tldAt_off {w : World} {own : Own} {t : Tld} {sv fv rv : Value} (h : TldAt w own t sv fv rv) : Off3 w.heap.size sv fv rv :=
  ⟨h.si.mono fun b hb => Nat.ne_of_lt hb.2, h.fi.mono fun b hb => Nat.ne_of_lt hb.2, h.ri.mono fun b hb => Nat.ne_of_lt hb.2⟩
theorem tldAt_set {w : World} {own : Own} {t t2 : Tld} {sv fv rv : Value} {g : Nat} (h : TldAt w own t sv fv rv) (hf : Off3 g sv fv rv) (j : Nat) (u : Value) (e1 : t2.sent = t.sent) (e2 : t2.frame = t.frame) (e3 : t2.report = t.report) : TldAt (w.setCell ⟨g, j, none⟩ u) own t2 sv fv rv := by
  have hk : ∀ b, b < w.heap.size → b ≠ g → (w.setCell ⟨g, j, none⟩ u).heap[b]? = w.heap[b]? := fun b _ hb => Below.heap_setCell _ _ _ _ hb
  have hm : ∀ {v : Value}, InF (Fr own w) v → InF (Fr own (w.setCell ⟨g, j, none⟩ u)) v := fun hi => hi.mono fun b hb => ⟨hb.1, by simp [World.setCell]; exact hb.2⟩
  exact ⟨by rw [e1]; exact h.s.kept hf.1 hk, by rw [e2]; exact h.f.kept hf.2.1 hk, by rw [e3]; exact h.r.kept hf.2.2 hk, hm h.si, hm h.fi, hm h.ri⟩
theorem tldAt_below {w w' : World} {own : Own} {t : Tld} {sv fv rv : Value} (h : TldAt w own t sv fv rv) (hb : Below w.heap.size w w') (hl : ∀ b, own b ≠ none → b < w.heap.size) : TldAt w' own t sv fv rv := h.went (Went.of_below hb hl)
theorem far11 {W : World} {b j g : Nat} {v : Value} (hne : b ≠ g) (h : W.cell? ⟨b, j, none⟩ = some v) {x0 x1 x2 x3 x4 x5 x6 x7 x8 x9 x10 : Value} : (((((((((((W.setCell ⟨g, 0, none⟩ x0).setCell ⟨g, 1, none⟩ x1).setCell ⟨g, 2, none⟩ x2).setCell ⟨g, 3, none⟩ x3).setCell ⟨g, 4, none⟩ x4).setCell ⟨g, 5, none⟩ x5).setCell ⟨g, 6, none⟩ x6).setCell ⟨g, 7, none⟩ x7).setCell ⟨g, 8, none⟩ x8).setCell ⟨g, 9, none⟩ x9).setCell ⟨g, 10, none⟩ x10).cell? ⟨b, j, none⟩ = some v := by
  have e : ∀ (x : World) (j : Nat) (u : Value), (x.setCell ⟨g, j, none⟩ u).heap[b]? = x.heap[b]? := fun x j u => Below.heap_setCell _ _ _ _ (by exact hne)
  rw [World.cell?_of_block (w := W) (a := ⟨b, j, none⟩) (by simp only [e])]; exact h
end
set_option maxRecDepth 100000 in
set_option maxHeartbeats 8000000 in
theorem cStep {w : World} {c : Cfg} {X : Adr} {own : Own} {N K : Nat} {s : Wld} (hc : c.Ok) (h : WAt w c X own N s) (hok : WOk c K s) (hK : K ≤ 1000) (hN : N ≤ 999900) (p : Stp)
    (CT : p.kind = 9 → StpOk c X N 54 [.pointer (some ⟨X.W, 0, none⟩)] (N + 20) s (s.tick c))
    (CD : p.kind = 10 → StpOk c X N 55 [.pointer (some ⟨X.W, 0, none⟩), .int .i64 p.id] (N + 20) s (s.deliver c p.id))
    (CC : 1 ≤ p.kind ∧ p.kind ≤ 8 → ∀ i, i < c.n → p.who = (i : Int) → StpOk c X N 58 [.pointer (some ⟨X.W, 0, none⟩), .pointer (some ⟨X.B i, 0, none⟩), p.val] (N + 20) s (s.client c i p)) :
    Calls Tryz.prog 45 #[.pointer (some ⟨X.W, 0, none⟩), p.val] w (Stepped w c X own (N + 20) (s.step c p)) := by
  obtain ⟨kind, who, item, count, life, id, label, key⟩ := p
  obtain ⟨g1, m1, m2⟩ := boxed h (.int .i64 kind) (.int .i64 who) (.int .i64 item) (.int .i64 count) (.int .i64 life) (.int .i64 id) (.int .i64 label) (.int .i64 key)
  have G := Lib.hid g1
  have M1 := Lib.hid m1
  have M2 := Lib.hid m2
  have HC := Lib.hid hc
  have HOK := Lib.hid hok
  have hdef : Hid (s.step c ⟨kind, who, item, count, life, id, label, key⟩ = if kind = 9 then s.tick c else if kind = 10 then s.deliver c id else if kind = 11 then s.lose id else if kind < 1 ∨ 11 < kind then (noT 3, s) else if who < 0 ∨ (c.n : Int) ≤ who then (noT 2, s) else ({ (s.client c who.toNat ⟨kind, who, item, count, life, id, label, key⟩).1 with who := who }, (s.client c who.toNat ⟨kind, who, item, count, life, id, label, key⟩).2)) := by
    show _ = _
    unfold Wld.step; rfl
  have HT := Lib.hid CT
  have HD := Lib.hid CD
  have HCC := Lib.hid CC
  have PL : w.heap.size + 1 < ((w.alloc (.cells #[.int .i64 kind, .int .i64 who, .int .i64 item, .int .i64 count, .int .i64 life, .int .i64 id, .int .i64 label, .int .i64 key] 48)).alloc (.cells #[.int .i64 0, .int .i64 0, .int .i64 0, .int .i64 0, .int .i64 0, .int .i64 0, .int .i64 0, .int .i64 0, .slice none 0 0, .slice none 0 0, .slice none 0 0] 57)).heap.size := m2.lt
  unfold Stp.val Stp.cells at HCC ⊢
  unfold StpOk at HT HD HCC
  simp only at HT HD HCC ⊢
  clear CT CD CC g1 m1 m2 hok h hc
  go_enter Tryz.func45, Tryz.ntmps45
  go_upto_region 1 with (fail)
  generalize ((w.alloc (.cells #[.int .i64 kind, .int .i64 who, .int .i64 item, .int .i64 count, .int .i64 life, .int .i64 id, .int .i64 label, .int .i64 key] 48)).alloc (.cells #[.int .i64 0, .int .i64 0, .int .i64 0, .int .i64 0, .int .i64 0, .int .i64 0, .int .i64 0, .int .i64 0, .slice none 0 0, .slice none 0 0, .slice none 0 0] 57)) = W at *
  obtain ⟨k0, k1, k2, k3, k4, k5, k6, k7⟩ := eight_at M1.out.hb
  by_cases h9 : kind = 9
  · replace hdef := Lib.hid (hdef.out.trans (if_pos h9))
    have C2 := Lib.hid (HT.out h9 W own G.out.at')
    have e9 : (kind == 9) = true := by rw [h9]; rfl
    clear HT HD HCC h9
    generalize s.tick c = r at *
    go_wp2_with fail
    refine C2.out.mono ?_
    rintro e w5 hs5
    obtain ⟨own5, sa, sc, fa, fc, ra, rc, rfl, ht5, hW5, hU5⟩ := hs5.got
    have HG := Lib.hid (G.out.step hW5 hU5)
    have HM := Lib.hid (M2.out.went hU5)
    have HT := Lib.hid (fun x0 x1 x2 x3 x4 x5 x6 x7 x8 x9 x10 => tldAt_put ht5.1 (P := w.heap.size + 1) ht5.2 PL x0 x1 x2 x3 x4 x5 x6 x7 x8 x9 x10)
    have HFar := Lib.hid (ht5.2.mono G.out.go.wr.size)
    obtain ⟨t, s'⟩ := r
    obtain ⟨tc, tw, ⟨kc, ki, kf, kh, ku⟩, tv, ts, tf, tr⟩ := t
    simp only at HT HFar HG ⊢
    clear hs5 ht5 hW5 hU5 G M1 M2 PL k0 k1 k2 k3 k4 k5 k6 k7
    obtain ⟨⟨y0, y1, y2, y3, y4, y5, y6, y7, y8, y9, y10⟩, yf⟩ := eleven_at HM.out.hb
    have yf0 := yf 0
    have yf1 := yf 1
    have yf2 := yf 2
    have yf3 := yf 3
    have yf4 := yf 4
    have yf5 := yf 5
    have yf6 := yf 6
    have yf7 := yf 7
    have yf8 := yf 8
    have yf9 := yf 9
    have yf10 := yf 10
    clear yf
    obtain ⟨W6, hW6⟩ : ∃ xx, xx = put11 w5 (w.heap.size + 1) (.int .i64 tc) (.int .i64 tw) (.int .i64 kc) (.int .i64 ki) (.int .i64 kf) (.int .i64 kh) (.int .i64 ku) (.int .i64 tv) (.slice sa ts.length sc) (.slice fa tf.length fc) (.slice ra tr.length rc) := ⟨_, rfl⟩
    have h6 := (HM.out).put11 (.int .i64 tc) (.int .i64 tw) (.int .i64 kc) (.int .i64 ki) (.int .i64 kf) (.int .i64 kh) (.int .i64 ku) (.int .i64 tv) (.slice sa ts.length sc) (.slice fa tf.length fc) (.slice ra tr.length rc)
    have hG6 := (HG.out).set11 (by first | omega | (simp; done) | (simp; omega)) (HM.out).ho (.int .i64 tc) (.int .i64 tw) (.int .i64 kc) (.int .i64 ki) (.int .i64 kf) (.int .i64 kh) (.int .i64 ku) (.int .i64 tv) (.slice sa ts.length sc) (.slice fa tf.length fc) (.slice ra tr.length rc)
    rw [← hW6] at h6 hG6
    unfold put11 at hW6
    have HW6 := Lib.hid hW6
    have HG6 := Lib.hid hG6
    obtain ⟨⟨t0, t1, t2, t3, t4, t5, t6, t7, t8, t9, t10⟩, -⟩ := eleven_at h6.hb
    clear hW6 hG6 h6
    go_wp2_with fail
    rw [← HW6.out]
    refine bodyPost_ret (v := .agg #[.int .i64 tc, .int .i64 tw, .int .i64 kc, .int .i64 ki, .int .i64 kf, .int .i64 kh, .int .i64 ku, .int .i64 tv, .slice sa ts.length sc, .slice fa tf.length fc, .slice ra tr.length rc]) (by simp [results, Tryz.results45, go_sem, t0, t1, t2, t3, t4, t5, t6, t7, t8, t9, t10]) rfl ?_
    exact (by rw [hdef.out]; exact ⟨own5, _, _, _, rfl, (by rw [HW6.out]; exact HT.out _ _ _ _ _ _ _ _ _ _ _), HG6.out.at', HG6.out.go, HFar.out⟩)
  by_cases h10 : kind = 10
  · replace hdef := Lib.hid (hdef.out.trans ((if_neg h9).trans (if_pos h10)))
    have C2 := Lib.hid (HD.out h10 W own G.out.at')
    have e9 : (kind == 9) = false := by rw [beq_eq_false_iff_ne]; exact h9
    have e10 : (kind == 10) = true := by rw [h10]; rfl
    clear HT HD HCC h9 h10
    generalize s.deliver c id = r at *
    go_wp2_with fail
    refine C2.out.mono ?_
    rintro e w5 hs5
    obtain ⟨own5, sa, sc, fa, fc, ra, rc, rfl, ht5, hW5, hU5⟩ := hs5.got
    have HG := Lib.hid (G.out.step hW5 hU5)
    have HM := Lib.hid (M2.out.went hU5)
    have HT := Lib.hid (fun x0 x1 x2 x3 x4 x5 x6 x7 x8 x9 x10 => tldAt_put ht5.1 (P := w.heap.size + 1) ht5.2 PL x0 x1 x2 x3 x4 x5 x6 x7 x8 x9 x10)
    have HFar := Lib.hid (ht5.2.mono G.out.go.wr.size)
    obtain ⟨t, s'⟩ := r
    obtain ⟨tc, tw, ⟨kc, ki, kf, kh, ku⟩, tv, ts, tf, tr⟩ := t
    simp only at HT HFar HG ⊢
    clear hs5 ht5 hW5 hU5 G M1 M2 PL k0 k1 k2 k3 k4 k5 k6 k7
    obtain ⟨⟨y0, y1, y2, y3, y4, y5, y6, y7, y8, y9, y10⟩, yf⟩ := eleven_at HM.out.hb
    have yf0 := yf 0
    have yf1 := yf 1
    have yf2 := yf 2
    have yf3 := yf 3
    have yf4 := yf 4
    have yf5 := yf 5
    have yf6 := yf 6
    have yf7 := yf 7
    have yf8 := yf 8
    have yf9 := yf 9
    have yf10 := yf 10
    clear yf
    obtain ⟨W6, hW6⟩ : ∃ xx, xx = put11 w5 (w.heap.size + 1) (.int .i64 tc) (.int .i64 tw) (.int .i64 kc) (.int .i64 ki) (.int .i64 kf) (.int .i64 kh) (.int .i64 ku) (.int .i64 tv) (.slice sa ts.length sc) (.slice fa tf.length fc) (.slice ra tr.length rc) := ⟨_, rfl⟩
    have h6 := (HM.out).put11 (.int .i64 tc) (.int .i64 tw) (.int .i64 kc) (.int .i64 ki) (.int .i64 kf) (.int .i64 kh) (.int .i64 ku) (.int .i64 tv) (.slice sa ts.length sc) (.slice fa tf.length fc) (.slice ra tr.length rc)
    have hG6 := (HG.out).set11 (by first | omega | (simp; done) | (simp; omega)) (HM.out).ho (.int .i64 tc) (.int .i64 tw) (.int .i64 kc) (.int .i64 ki) (.int .i64 kf) (.int .i64 kh) (.int .i64 ku) (.int .i64 tv) (.slice sa ts.length sc) (.slice fa tf.length fc) (.slice ra tr.length rc)
    rw [← hW6] at h6 hG6
    unfold put11 at hW6
    have HW6 := Lib.hid hW6
    have HG6 := Lib.hid hG6
    obtain ⟨⟨t0, t1, t2, t3, t4, t5, t6, t7, t8, t9, t10⟩, -⟩ := eleven_at h6.hb
    clear hW6 hG6 h6
    go_wp2_with fail
    rw [← HW6.out]
    refine bodyPost_ret (v := .agg #[.int .i64 tc, .int .i64 tw, .int .i64 kc, .int .i64 ki, .int .i64 kf, .int .i64 kh, .int .i64 ku, .int .i64 tv, .slice sa ts.length sc, .slice fa tf.length fc, .slice ra tr.length rc]) (by simp [results, Tryz.results45, go_sem, t0, t1, t2, t3, t4, t5, t6, t7, t8, t9, t10]) rfl ?_
    exact (by rw [hdef.out]; exact ⟨own5, _, _, _, rfl, (by rw [HW6.out]; exact HT.out _ _ _ _ _ _ _ _ _ _ _), HG6.out.at', HG6.out.go, HFar.out⟩)
  by_cases h11 : kind = 11
  · replace hdef := Lib.hid (hdef.out.trans ((if_neg h9).trans ((if_neg h10).trans (if_pos h11))))
    have e9 : (kind == 9) = false := by rw [beq_eq_false_iff_ne]; exact h9
    have e10 : (kind == 10) = false := by rw [beq_eq_false_iff_ne]; exact h10
    have e11 : (kind == 11) = true := by rw [h11]; rfl
    clear HT HD HCC h9 h10 h11
    by_cases hr : id < 0 ∨ (s.ls.length : Int) ≤ id
    · have hl : s.lose id = (noT 6, s) := by
        have hd : s.due id = 6 := by unfold Wld.due; rw [if_pos hr]
        unfold Wld.lose; rw [hd, if_neg (by decide)]
      replace hdef := Lib.hid (hdef.out.trans hl)
      have CE := Lib.hid (cDueNone G.out.at' id hr)
      clear hr hl
      go_wp2_with fail
      refine CE.out.mono ?_
      rintro e w3 ⟨rfl, rfl⟩
      go_wp2_with fail
      refine (cNo 6 _).mono ?_
      rintro e w3 ⟨rfl, hb3⟩
      unfold tldC stk0 nil0
      simp only
      have G3 := Lib.hid (G.out.on hb3)
      have M3 := Lib.hid (M2.out.on hb3)
      clear hb3 G M2 M1
      obtain ⟨⟨y0, y1, y2, y3, y4, y5, y6, y7, y8, y9, y10⟩, yf⟩ := eleven_at M3.out.hb
      have yf0 := yf 0
      have yf1 := yf 1
      have yf2 := yf 2
      have yf3 := yf 3
      have yf4 := yf 4
      have yf5 := yf 5
      have yf6 := yf 6
      have yf7 := yf 7
      have yf8 := yf 8
      have yf9 := yf 9
      have yf10 := yf 10
      clear yf
      obtain ⟨W6, hW6⟩ : ∃ xx, xx = put11 w3 (w.heap.size + 1) (.int .i64 6) (.int .i64 0) (.int .i64 0) (.int .i64 0) (.int .i64 0) (.int .i64 0) (.int .i64 0) (.int .i64 0) (.slice none 0 0) (.slice none 0 0) (.slice none 0 0) := ⟨_, rfl⟩
      have h6 := (M3.out).put11 (.int .i64 6) (.int .i64 0) (.int .i64 0) (.int .i64 0) (.int .i64 0) (.int .i64 0) (.int .i64 0) (.int .i64 0) (.slice none 0 0) (.slice none 0 0) (.slice none 0 0)
      have hG6 := (G3.out).set11 (by first | omega | (simp; done) | (simp; omega)) (M3.out).ho (.int .i64 6) (.int .i64 0) (.int .i64 0) (.int .i64 0) (.int .i64 0) (.int .i64 0) (.int .i64 0) (.int .i64 0) (.slice none 0 0) (.slice none 0 0) (.slice none 0 0)
      rw [← hW6] at h6 hG6
      unfold put11 at hW6
      have HW6 := Lib.hid hW6
      have HG6 := Lib.hid hG6
      obtain ⟨⟨t0, t1, t2, t3, t4, t5, t6, t7, t8, t9, t10⟩, -⟩ := eleven_at h6.hb
      clear hW6 hG6 h6
      go_wp2_with fail
      rw [← HW6.out]
      refine bodyPost_ret (v := .agg #[.int .i64 6, .int .i64 0, .int .i64 0, .int .i64 0, .int .i64 0, .int .i64 0, .int .i64 0, .int .i64 0, .slice none 0 0, .slice none 0 0, .slice none 0 0]) (by simp [results, Tryz.results45, go_sem, t0, t1, t2, t3, t4, t5, t6, t7, t8, t9, t10]) rfl ?_
      exact (by rw [hdef.out]; exact ⟨own, nil0, nil0, nil0, rfl, TldAt.none _ _ _ rfl rfl rfl, (HG6.out.at'.moreN (by omega)), HG6.out.go, far0 _⟩)
    · obtain ⟨i, rfl⟩ : ∃ i : Nat, id = i := ⟨id.toNat, by omega⟩
      have hi : i < s.ls.length := by omega
      have CE := Lib.hid (cDue G.out.at' (by omega) i hi)
      have hlen := G.out.at'.off.len
      simp only [ltrs_len] at hlen
      have hwf : (Lit.int .i64 (i : Int)).wf = true := wf64_iff.2 (by omega)
      by_cases hd : s.due i = 0
      · have hl : s.lose i = (noT 0, { s with lost := updF s.lost i true }) := by unfold Wld.lose; rw [if_pos hd]; simp
        replace hdef := Lib.hid (hdef.out.trans hl)
        rw [hd] at CE
        clear hr hl hd hlen
        go_wp2_with fail
        refine CE.out.mono ?_
        rintro e w3 ⟨rfl, hb3⟩
        replace G := Lib.hid (G.out.on hb3)
        replace M1 := Lib.hid (M1.out.on hb3)
        replace M2 := Lib.hid (M2.out.on hb3)
        clear hb3 k0 k1 k2 k3 k4 k5 k6 k7
        obtain ⟨k0, k1, k2, k3, k4, k5, k6, k7⟩ := eight_at M1.out.hb
        obtain ⟨x0, x1, x2, x3, x4, x5, x6, x7, x8⟩ := G.out.at'.head
        obtain ⟨n, hm, hn⟩ := (G.out.on (Below.drew (Below.refl _ _))).at'.lost.ex
        obtain ⟨w5, hr5, hm5, hg5⟩ := hm.store (by unfold maxLen; omega) hwf
        obtain ⟨hW5, hU5⟩ := (G.out.on (Below.drew (Below.refl _ _))).at'.lose _ hm5 (by omega) hg5
        have HG := Lib.hid ((G.out.on (Below.drew (Below.refl _ _))).step hW5 hU5)
        have HM := Lib.hid ((M2.out.on (Below.drew (Below.refl _ _))).went hU5)
        clear hm hn hm5 hg5 hW5 hU5
        go_upto_region 9 with (fail)
        go_region_law (go_simp)
        all_goals
          clear k0 k1 k2 k3 k4 k5 k6 k7 x0 x1 x2 x3 x4 x5 x6 x7 x8 hr5 G M1 M2
          go_wp2_with fail
          refine (cNo 0 _).mono ?_
          rintro e w6 ⟨rfl, hb6⟩
          unfold tldC stk0 nil0
          simp only
          have G3 := Lib.hid (HG.out.on hb6)
          have M3 := Lib.hid (HM.out.on hb6)
          clear hb6 HG HM
          obtain ⟨⟨y0, y1, y2, y3, y4, y5, y6, y7, y8, y9, y10⟩, yf⟩ := eleven_at M3.out.hb
          have yf0 := yf 0
          have yf1 := yf 1
          have yf2 := yf 2
          have yf3 := yf 3
          have yf4 := yf 4
          have yf5 := yf 5
          have yf6 := yf 6
          have yf7 := yf 7
          have yf8 := yf 8
          have yf9 := yf 9
          have yf10 := yf 10
          clear yf
          obtain ⟨W6, hW6⟩ : ∃ xx, xx = put11 w6 (w.heap.size + 1) (.int .i64 0) (.int .i64 0) (.int .i64 0) (.int .i64 0) (.int .i64 0) (.int .i64 0) (.int .i64 0) (.int .i64 0) (.slice none 0 0) (.slice none 0 0) (.slice none 0 0) := ⟨_, rfl⟩
          have h6 := (M3.out).put11 (.int .i64 0) (.int .i64 0) (.int .i64 0) (.int .i64 0) (.int .i64 0) (.int .i64 0) (.int .i64 0) (.int .i64 0) (.slice none 0 0) (.slice none 0 0) (.slice none 0 0)
          have hG6 := (G3.out).set11 (by first | omega | (simp; done) | (simp; omega)) (M3.out).ho (.int .i64 0) (.int .i64 0) (.int .i64 0) (.int .i64 0) (.int .i64 0) (.int .i64 0) (.int .i64 0) (.int .i64 0) (.slice none 0 0) (.slice none 0 0) (.slice none 0 0)
          rw [← hW6] at h6 hG6
          unfold put11 at hW6
          have HW6 := Lib.hid hW6
          have HG6 := Lib.hid hG6
          obtain ⟨⟨t0, t1, t2, t3, t4, t5, t6, t7, t8, t9, t10⟩, -⟩ := eleven_at h6.hb
          clear hW6 hG6 h6
          go_wp2_with fail
          rw [← HW6.out]
          refine bodyPost_ret (v := .agg #[.int .i64 0, .int .i64 0, .int .i64 0, .int .i64 0, .int .i64 0, .int .i64 0, .int .i64 0, .int .i64 0, .slice none 0 0, .slice none 0 0, .slice none 0 0]) (by simp [results, Tryz.results45, go_sem, t0, t1, t2, t3, t4, t5, t6, t7, t8, t9, t10]) rfl ?_
          exact (by rw [hdef.out]; exact ⟨own, nil0, nil0, nil0, rfl, TldAt.none _ _ _ rfl rfl rfl, (HG6.out.at'.moreN (by omega)), HG6.out.go, far0 _⟩)
      · have hl : s.lose i = (noT (s.due i), s) := by unfold Wld.lose; rw [if_neg hd]
        replace hdef := Lib.hid (hdef.out.trans hl)
        have hd10 : s.due i = 10 := by
          unfold Wld.due at hd ⊢
          rw [if_neg (by omega)] at hd ⊢
          split
          · rfl
          · rename_i hh; rw [if_neg hh] at hd; exact absurd rfl hd
        rw [hd10] at CE hdef
        clear hr hl hd hd10 hlen
        go_wp2_with fail
        refine CE.out.mono ?_
        rintro e w3 ⟨rfl, hb3⟩
        replace G := Lib.hid (G.out.on hb3)
        replace M1 := Lib.hid (M1.out.on hb3)
        replace M2 := Lib.hid (M2.out.on hb3)
        clear hb3 k0 k1 k2 k3 k4 k5 k6 k7
        go_wp2_with fail
        refine (cNo 10 _).mono ?_
        rintro e w3 ⟨rfl, hb3⟩
        unfold tldC stk0 nil0
        simp only
        have G3 := Lib.hid (G.out.on hb3)
        have M3 := Lib.hid (M2.out.on hb3)
        clear hb3 G M2 M1
        obtain ⟨⟨y0, y1, y2, y3, y4, y5, y6, y7, y8, y9, y10⟩, yf⟩ := eleven_at M3.out.hb
        have yf0 := yf 0
        have yf1 := yf 1
        have yf2 := yf 2
        have yf3 := yf 3
        have yf4 := yf 4
        have yf5 := yf 5
        have yf6 := yf 6
        have yf7 := yf 7
        have yf8 := yf 8
        have yf9 := yf 9
        have yf10 := yf 10
        clear yf
        obtain ⟨W6, hW6⟩ : ∃ xx, xx = put11 w3 (w.heap.size + 1) (.int .i64 10) (.int .i64 0) (.int .i64 0) (.int .i64 0) (.int .i64 0) (.int .i64 0) (.int .i64 0) (.int .i64 0) (.slice none 0 0) (.slice none 0 0) (.slice none 0 0) := ⟨_, rfl⟩
        have h6 := (M3.out).put11 (.int .i64 10) (.int .i64 0) (.int .i64 0) (.int .i64 0) (.int .i64 0) (.int .i64 0) (.int .i64 0) (.int .i64 0) (.slice none 0 0) (.slice none 0 0) (.slice none 0 0)
        have hG6 := (G3.out).set11 (by first | omega | (simp; done) | (simp; omega)) (M3.out).ho (.int .i64 10) (.int .i64 0) (.int .i64 0) (.int .i64 0) (.int .i64 0) (.int .i64 0) (.int .i64 0) (.int .i64 0) (.slice none 0 0) (.slice none 0 0) (.slice none 0 0)
        rw [← hW6] at h6 hG6
        unfold put11 at hW6
        have HW6 := Lib.hid hW6
        have HG6 := Lib.hid hG6
        obtain ⟨⟨t0, t1, t2, t3, t4, t5, t6, t7, t8, t9, t10⟩, -⟩ := eleven_at h6.hb
        clear hW6 hG6 h6
        go_wp2_with fail
        rw [← HW6.out]
        refine bodyPost_ret (v := .agg #[.int .i64 10, .int .i64 0, .int .i64 0, .int .i64 0, .int .i64 0, .int .i64 0, .int .i64 0, .int .i64 0, .slice none 0 0, .slice none 0 0, .slice none 0 0]) (by simp [results, Tryz.results45, go_sem, t0, t1, t2, t3, t4, t5, t6, t7, t8, t9, t10]) rfl ?_
        exact (by rw [hdef.out]; exact ⟨own, nil0, nil0, nil0, rfl, TldAt.none _ _ _ rfl rfl rfl, (HG6.out.at'.moreN (by omega)), HG6.out.go, far0 _⟩)
  have e9 : (kind == 9) = false := by rw [beq_eq_false_iff_ne]; exact h9
  have e10 : (kind == 10) = false := by rw [beq_eq_false_iff_ne]; exact h10
  have e11 : (kind == 11) = false := by rw [beq_eq_false_iff_ne]; exact h11
  replace hdef := Lib.hid (hdef.out.trans ((if_neg h9).trans ((if_neg h10).trans (if_neg h11))))
  clear HT HD
  by_cases hkb : kind < 1 ∨ 11 < kind
  · replace hdef := Lib.hid (hdef.out.trans (if_pos hkb))
    by_cases hk1 : kind < 1
    · have e1 : (kind < 1) = True := eq_true hk1
      clear hkb hk1 h9 h10 h11 HCC
      go_wp2_with fail
      refine (cNo 3 _).mono ?_
      rintro e w3 ⟨rfl, hb3⟩
      unfold tldC stk0 nil0
      simp only
      have G3 := Lib.hid (G.out.on hb3)
      have M3 := Lib.hid (M2.out.on hb3)
      clear hb3 G M2 M1
      obtain ⟨⟨y0, y1, y2, y3, y4, y5, y6, y7, y8, y9, y10⟩, yf⟩ := eleven_at M3.out.hb
      have yf0 := yf 0
      have yf1 := yf 1
      have yf2 := yf 2
      have yf3 := yf 3
      have yf4 := yf 4
      have yf5 := yf 5
      have yf6 := yf 6
      have yf7 := yf 7
      have yf8 := yf 8
      have yf9 := yf 9
      have yf10 := yf 10
      clear yf
      obtain ⟨W6, hW6⟩ : ∃ xx, xx = put11 w3 (w.heap.size + 1) (.int .i64 3) (.int .i64 0) (.int .i64 0) (.int .i64 0) (.int .i64 0) (.int .i64 0) (.int .i64 0) (.int .i64 0) (.slice none 0 0) (.slice none 0 0) (.slice none 0 0) := ⟨_, rfl⟩
      have h6 := (M3.out).put11 (.int .i64 3) (.int .i64 0) (.int .i64 0) (.int .i64 0) (.int .i64 0) (.int .i64 0) (.int .i64 0) (.int .i64 0) (.slice none 0 0) (.slice none 0 0) (.slice none 0 0)
      have hG6 := (G3.out).set11 (by first | omega | (simp; done) | (simp; omega)) (M3.out).ho (.int .i64 3) (.int .i64 0) (.int .i64 0) (.int .i64 0) (.int .i64 0) (.int .i64 0) (.int .i64 0) (.int .i64 0) (.slice none 0 0) (.slice none 0 0) (.slice none 0 0)
      rw [← hW6] at h6 hG6
      unfold put11 at hW6
      have HW6 := Lib.hid hW6
      have HG6 := Lib.hid hG6
      obtain ⟨⟨t0, t1, t2, t3, t4, t5, t6, t7, t8, t9, t10⟩, -⟩ := eleven_at h6.hb
      clear hW6 hG6 h6
      go_wp2_with fail
      rw [← HW6.out]
      refine bodyPost_ret (v := .agg #[.int .i64 3, .int .i64 0, .int .i64 0, .int .i64 0, .int .i64 0, .int .i64 0, .int .i64 0, .int .i64 0, .slice none 0 0, .slice none 0 0, .slice none 0 0]) (by simp [results, Tryz.results45, go_sem, t0, t1, t2, t3, t4, t5, t6, t7, t8, t9, t10]) rfl ?_
      exact (by rw [hdef.out]; exact ⟨own, nil0, nil0, nil0, rfl, TldAt.none _ _ _ rfl rfl rfl, (HG6.out.at'.moreN (by omega)), HG6.out.go, far0 _⟩)
    · have e1 : (kind < 1) = False := eq_false hk1
      have e2 : (11 < kind) = True := eq_true (by omega)
      clear hkb hk1 h9 h10 h11 HCC
      go_wp2_with fail
      refine (cNo 3 _).mono ?_
      rintro e w3 ⟨rfl, hb3⟩
      unfold tldC stk0 nil0
      simp only
      have G3 := Lib.hid (G.out.on hb3)
      have M3 := Lib.hid (M2.out.on hb3)
      clear hb3 G M2 M1
      obtain ⟨⟨y0, y1, y2, y3, y4, y5, y6, y7, y8, y9, y10⟩, yf⟩ := eleven_at M3.out.hb
      have yf0 := yf 0
      have yf1 := yf 1
      have yf2 := yf 2
      have yf3 := yf 3
      have yf4 := yf 4
      have yf5 := yf 5
      have yf6 := yf 6
      have yf7 := yf 7
      have yf8 := yf 8
      have yf9 := yf 9
      have yf10 := yf 10
      clear yf
      obtain ⟨W6, hW6⟩ : ∃ xx, xx = put11 w3 (w.heap.size + 1) (.int .i64 3) (.int .i64 0) (.int .i64 0) (.int .i64 0) (.int .i64 0) (.int .i64 0) (.int .i64 0) (.int .i64 0) (.slice none 0 0) (.slice none 0 0) (.slice none 0 0) := ⟨_, rfl⟩
      have h6 := (M3.out).put11 (.int .i64 3) (.int .i64 0) (.int .i64 0) (.int .i64 0) (.int .i64 0) (.int .i64 0) (.int .i64 0) (.int .i64 0) (.slice none 0 0) (.slice none 0 0) (.slice none 0 0)
      have hG6 := (G3.out).set11 (by first | omega | (simp; done) | (simp; omega)) (M3.out).ho (.int .i64 3) (.int .i64 0) (.int .i64 0) (.int .i64 0) (.int .i64 0) (.int .i64 0) (.int .i64 0) (.int .i64 0) (.slice none 0 0) (.slice none 0 0) (.slice none 0 0)
      rw [← hW6] at h6 hG6
      unfold put11 at hW6
      have HW6 := Lib.hid hW6
      have HG6 := Lib.hid hG6
      obtain ⟨⟨t0, t1, t2, t3, t4, t5, t6, t7, t8, t9, t10⟩, -⟩ := eleven_at h6.hb
      clear hW6 hG6 h6
      go_wp2_with fail
      rw [← HW6.out]
      refine bodyPost_ret (v := .agg #[.int .i64 3, .int .i64 0, .int .i64 0, .int .i64 0, .int .i64 0, .int .i64 0, .int .i64 0, .int .i64 0, .slice none 0 0, .slice none 0 0, .slice none 0 0]) (by simp [results, Tryz.results45, go_sem, t0, t1, t2, t3, t4, t5, t6, t7, t8, t9, t10]) rfl ?_
      exact (by rw [hdef.out]; exact ⟨own, nil0, nil0, nil0, rfl, TldAt.none _ _ _ rfl rfl rfl, (HG6.out.at'.moreN (by omega)), HG6.out.go, far0 _⟩)
  replace hdef := Lib.hid (hdef.out.trans (if_neg hkb))
  replace HCC := Lib.hid (HCC.out (by omega))
  have e1 : (kind < 1) = False := eq_false (by omega)
  have e2 : (11 < kind) = False := eq_false (by omega)
  clear hkb h9 h10 h11
  go_upto_region 13 with (fail)
  clear e1 e2 e9 e10 e11
  obtain ⟨x0, x1, x2, x3, x4, x5, x6, x7, x8⟩ := G.out.at'.head
  go_cut [56] (fun v wx => v = .bool (decide (who < 0 ∨ (c.n : Int) ≤ who)) ∧ Hid (Below W.heap.size W wx))
  case first =>
    have p2 := ext_cell k1
    have y1 := ext_cell x0
    have fin : ∀ b, decide (who < 0 ∨ (c.n : Int) ≤ who) = b → Hid (b = decide (who < 0 ∨ (c.n : Int) ≤ who)) := fun b hb => hb.symm
    by_cases a0 : who < 0
    · have hbd := fin true (decide_eq_true (by omega))
      have e1 : (who < 0) = True := eq_true a0
      clear a0
      refine wp_region_grow (by kernel_rfl) (by kernel_rfl) ?_
      repeat (go_big_quiet_step (fail))
      refine wpQuiet_nil ?_
      intro W2 hb2
      go_wp2_with fail
      go_meet
      exact ⟨by rw [← hbd.out], hb2⟩
    · by_cases a1 : (c.n : Int) ≤ who
      · have hbd := fin true (decide_eq_true (by omega))
        have e1 : (who < 0) = False := eq_false (by omega)
        have e2 : ((c.n : Int) ≤ who) = True := eq_true a1
        clear a0 a1
        refine wp_region_grow (by kernel_rfl) (by kernel_rfl) ?_
        repeat (go_big_quiet_step (fail))
        refine wpQuiet_nil ?_
        intro W2 hb2
        go_wp2_with fail
        go_meet
        exact ⟨by rw [← hbd.out], hb2⟩
      · have hbd := fin false (decide_eq_false (by omega))
        have e1 : (who < 0) = False := eq_false (by omega)
        have e2 : ((c.n : Int) ≤ who) = False := eq_false (by omega)
        clear a0 a1
        refine wp_region_grow (by kernel_rfl) (by kernel_rfl) ?_
        repeat (go_big_quiet_step (fail))
        refine wpQuiet_nil ?_
        intro W2 hb2
        go_wp2_with fail
        go_meet
        exact ⟨by rw [← hbd.out], hb2⟩
  case rest =>
  obtain ⟨rfl, B2⟩ := hcut
  clear k0 k1 k2 k3 k4 k5 k6 k7 x0 x1 x2 x3 x4 x5 x6 x7 x8
  replace G := Lib.hid (G.out.on B2.out)
  replace M1 := Lib.hid (M1.out.on B2.out)
  replace M2 := Lib.hid (M2.out.on B2.out)
  replace PL := Nat.lt_of_lt_of_le PL B2.out.size
  clear B2
  by_cases hbi : who < 0 ∨ (c.n : Int) ≤ who
  · replace hdef := Lib.hid (hdef.out.trans (if_pos hbi))
    rw [decide_eq_true hbi]
    clear HCC
    go_wp2_with fail
    refine (cNo 2 _).mono ?_
    rintro e w3 ⟨rfl, hb3⟩
    unfold tldC stk0 nil0
    simp only
    have G3 := Lib.hid (G.out.on hb3)
    have M3 := Lib.hid (M2.out.on hb3)
    clear hb3 G M2 M1
    obtain ⟨⟨y0, y1, y2, y3, y4, y5, y6, y7, y8, y9, y10⟩, yf⟩ := eleven_at M3.out.hb
    have yf0 := yf 0
    have yf1 := yf 1
    have yf2 := yf 2
    have yf3 := yf 3
    have yf4 := yf 4
    have yf5 := yf 5
    have yf6 := yf 6
    have yf7 := yf 7
    have yf8 := yf 8
    have yf9 := yf 9
    have yf10 := yf 10
    clear yf
    obtain ⟨W6, hW6⟩ : ∃ xx, xx = put11 w3 (w.heap.size + 1) (.int .i64 2) (.int .i64 0) (.int .i64 0) (.int .i64 0) (.int .i64 0) (.int .i64 0) (.int .i64 0) (.int .i64 0) (.slice none 0 0) (.slice none 0 0) (.slice none 0 0) := ⟨_, rfl⟩
    have h6 := (M3.out).put11 (.int .i64 2) (.int .i64 0) (.int .i64 0) (.int .i64 0) (.int .i64 0) (.int .i64 0) (.int .i64 0) (.int .i64 0) (.slice none 0 0) (.slice none 0 0) (.slice none 0 0)
    have hG6 := (G3.out).set11 (by first | omega | (simp; done) | (simp; omega)) (M3.out).ho (.int .i64 2) (.int .i64 0) (.int .i64 0) (.int .i64 0) (.int .i64 0) (.int .i64 0) (.int .i64 0) (.int .i64 0) (.slice none 0 0) (.slice none 0 0) (.slice none 0 0)
    rw [← hW6] at h6 hG6
    unfold put11 at hW6
    have HW6 := Lib.hid hW6
    have HG6 := Lib.hid hG6
    obtain ⟨⟨t0, t1, t2, t3, t4, t5, t6, t7, t8, t9, t10⟩, -⟩ := eleven_at h6.hb
    clear hW6 hG6 h6
    go_wp2_with fail
    rw [← HW6.out]
    refine bodyPost_ret (v := .agg #[.int .i64 2, .int .i64 0, .int .i64 0, .int .i64 0, .int .i64 0, .int .i64 0, .int .i64 0, .int .i64 0, .slice none 0 0, .slice none 0 0, .slice none 0 0]) (by simp [results, Tryz.results45, go_sem, t0, t1, t2, t3, t4, t5, t6, t7, t8, t9, t10]) rfl ?_
    exact (by rw [hdef.out]; exact ⟨own, nil0, nil0, nil0, rfl, TldAt.none _ _ _ rfl rfl rfl, (HG6.out.at'.moreN (by omega)), HG6.out.go, far0 _⟩)
  replace hdef := Lib.hid (hdef.out.trans (if_neg hbi))
  rw [decide_eq_false hbi]
  obtain ⟨i, rfl⟩ : ∃ i : Nat, who = i := ⟨who.toNat, by omega⟩
  simp only [Int.toNat_natCast] at hdef
  have hi : i < c.n := by omega
  have hiz : (i : Int) < (c.n : Int) := by omega
  clear hbi
  obtain ⟨x0, x1, x2, x3, x4, x5, x6, x7, x8⟩ := G.out.at'.head
  obtain ⟨k0, k1, k2, k3, k4, k5, k6, k7⟩ := eight_at M1.out.hb
  obtain ⟨z0, hp1, hp2⟩ := G.out.at'.ptr i hi
  unfold maxLen at hp2
  have CX : Hid (∀ Y, Below wc.heap.size wc Y → _) := fun Y hY => HCC.out i hi rfl Y own (G.out.on hY).at'
  generalize s.client c i ⟨kind, i, item, count, life, id, label, key⟩ = r at *
  obtain ⟨⟨tc, tw, ⟨kc, ki, kf, kh, ku⟩, tv, ts, tf, tr⟩, s'⟩ := r
  simp only at CX hdef
  clear HCC
  have l1 := World.block_lt_of_cell? wc _ k7
  have l2 := World.block_lt_of_cell? wc _ x5
  have l3 := World.block_lt_of_cell? wc _ z0
  have e1 : w.heap.size ≠ wc.heap.size := by omega
  have e2 : X.W ≠ wc.heap.size := by simp only at l2; omega
  have e3 : X.R ≠ wc.heap.size := by simp only at l3; omega
  have PLh := PL
  go_upto_region 15 with (fail)
  go_cut [6] (fun v wx => ∃ g own5 sa sc fa fc ra rc, v = .pointer (some ⟨g, 0, none⟩) ∧ Hid (Gone w own wx c X own5 (N + 20) s') ∧ Hid (Mine own5 wx w.heap.size (.cells #[.int .i64 kind, .int .i64 i, .int .i64 item, .int .i64 count, .int .i64 life, .int .i64 id, .int .i64 label, .int .i64 key] 48 (0, 0))) ∧ Hid (Mine own5 wx (w.heap.size + 1) (.cells #[.int .i64 0, .int .i64 0, .int .i64 0, .int .i64 0, .int .i64 0, .int .i64 0, .int .i64 0, .int .i64 0, .slice none 0 0, .slice none 0 0, .slice none 0 0] 57 (0, 0))) ∧ Hid (Mine own5 wx g (.cells #[.int .i64 tc, .int .i64 tw, .int .i64 kc, .int .i64 ki, .int .i64 kf, .int .i64 kh, .int .i64 ku, .int .i64 tv, .slice sa ts.length sc, .slice fa tf.length fc, .slice ra tr.length rc] 57 (0, 0))) ∧ Hid (TldAt wx own5 ⟨tc, tw, ⟨kc, ki, kf, kh, ku⟩, tv, ts, tf, tr⟩ (.slice sa ts.length sc) (.slice fa tf.length fc) (.slice ra tr.length rc)) ∧ Hid (Far wc (.slice sa ts.length sc) (.slice fa tf.length fc) (.slice ra tr.length rc)) ∧ Hid (Off3 g (.slice sa ts.length sc) (.slice fa tf.length fc) (.slice ra tr.length rc)) ∧ Hid (w.heap.size + 1 < g))
  case first =>
    go_region_held3 (fun Z => Z.cell? ⟨w.heap.size, 0, none⟩ = some (.int .i64 kind) ∧ Z.cell? ⟨w.heap.size, 1, none⟩ = some (.int .i64 i) ∧ Z.cell? ⟨w.heap.size, 2, none⟩ = some (.int .i64 item) ∧ Z.cell? ⟨w.heap.size, 3, none⟩ = some (.int .i64 count) ∧ Z.cell? ⟨w.heap.size, 4, none⟩ = some (.int .i64 life) ∧ Z.cell? ⟨w.heap.size, 5, none⟩ = some (.int .i64 id) ∧ Z.cell? ⟨w.heap.size, 6, none⟩ = some (.int .i64 label) ∧ Z.cell? ⟨w.heap.size, 7, none⟩ = some (.int .i64 key) ∧ Z.cell? ⟨X.W, 5, none⟩ = some (.slice (some ⟨X.R, 0, none⟩) c.n X.cb) ∧ Z.cell? ⟨X.R, i, none⟩ = some (.pointer (some ⟨X.B i, 0, none⟩)))
      (first | with_reducible exact ⟨k0, k1, k2, k3, k4, k5, k6, k7, x5, z0⟩ | with_reducible exact ⟨q0, q1, q2, q3, q4, q5, q6, q7, d5, y0⟩ | with_reducible exact ⟨far11 e1 q0, far11 e1 q1, far11 e1 q2, far11 e1 q3, far11 e1 q4, far11 e1 q5, far11 e1 q6, far11 e1 q7, far11 e2 d5, far11 e3 y0⟩ | with_reducible exact ⟨cell_on hb6 q0, cell_on hb6 q1, cell_on hb6 q2, cell_on hb6 q3, cell_on hb6 q4, cell_on hb6 q5, cell_on hb6 q6, cell_on hb6 q7, cell_on hb6 d5, cell_on hb6 y0⟩ | go_keep)
      ((go_at_call 58; refine (CX.out _ (by repeat (first | exact Below.refl _ _ | refine Below.drew ?_ | refine Below.alloc ?_ (by first | (simp; done) | (simp; omega)) _ | refine Below.setCell ?_ (by first | (simp; done) | (simp; omega)) _))).mono ?_; rintro e w5 hs5; have hg5 := hs5.got; simp only at hg5; obtain ⟨own5, sa, sc, fa, fc, ra, rc, rfl, ht5, hW5, hU5⟩ := hg5; have HG5 := Lib.hid ((G.out.on (by repeat (first | exact Below.refl _ _ | refine Below.drew ?_ | refine Below.alloc ?_ (by first | (simp; done) | (simp; omega)) _ | refine Below.setCell ?_ (by first | (simp; done) | (simp; omega)) _))).step hW5 hU5); have HM15 := Lib.hid ((M1.out.on (by repeat (first | exact Below.refl _ _ | refine Below.drew ?_ | refine Below.alloc ?_ (by first | (simp; done) | (simp; omega)) _ | refine Below.setCell ?_ (by first | (simp; done) | (simp; omega)) _))).went hU5); have HM25 := Lib.hid ((M2.out.on (by repeat (first | exact Below.refl _ _ | refine Below.drew ?_ | refine Below.alloc ?_ (by first | (simp; done) | (simp; omega)) _ | refine Below.setCell ?_ (by first | (simp; done) | (simp; omega)) _))).went hU5); obtain ⟨q0, q1, q2, q3, q4, q5, q6, q7⟩ := eight_at HM15.out.hb; obtain ⟨-, -, -, -, -, d5, -, -, -⟩ := hW5.head; obtain ⟨y0, -, -⟩ := hW5.ptr i hi; have HT5 := Lib.hid ht5; have hF5 := ht5.2.mono (w := wc) (Below.size (B := wc.heap.size) (by repeat (first | exact Below.refl _ _ | refine Below.drew ?_ | refine Below.alloc ?_ (by first | (simp; done) | (simp; omega)) _ | refine Below.setCell ?_ (by first | (simp; done) | (simp; omega)) _))); have HF5 := Lib.hid hF5; have HW5 := Lib.hid hW5.lt; have hb6 : Below w5.heap.size w5 (w5.alloc (.cells #[.int .i64 tc, .int .i64 tw, .int .i64 kc, .int .i64 ki, .int .i64 kf, .int .i64 kh, .int .i64 ku, .int .i64 tv, .slice sa ts.length sc, .slice fa tf.length fc, .slice ra tr.length rc] 57)) := (Below.refl _ _).alloc (Nat.le_refl _) _; have HB6 := Lib.hid hb6; have hL5 : wc.heap.size ≤ w5.heap.size := Nat.le_trans (Below.size (B := wc.heap.size) (by repeat (first | exact Below.refl _ _ | refine Below.drew ?_ | refine Below.alloc ?_ (by first | (simp; done) | (simp; omega)) _ | refine Below.setCell ?_ (by first | (simp; done) | (simp; omega)) _))) hU5.wr.size; (try (have hn := mine_new2 (o := .cells #[.int .i64 0, .int .i64 0, .int .i64 0, .int .i64 0, .int .i64 0, .int .i64 0, .int .i64 0, .int .i64 0, .slice none 0 0, .slice none 0 0, .slice none 0 0] 57 (0, 0)) G.out (by repeat (first | exact Below.refl _ _ | refine Below.drew ?_ | refine Below.alloc ?_ (by first | (simp; done) | (simp; omega)) _ | refine Below.setCell ?_ (by first | (simp; done) | (simp; omega)) _)) (by first | exact heap_alloc_new _ _ | (simp only [heap_drew, heap_drewN]; exact heap_alloc_new _ _)) hU5; obtain ⟨⟨n0, n1, n2, n3, n4, n5, n6, n7, n8, n9, n10⟩, nf⟩ := eleven_at hn.hb; have nf0 := nf 0; have nf1 := nf 1; have nf2 := nf 2; have nf3 := nf 3; have nf4 := nf 4; have nf5 := nf 5; have nf6 := nf 6; have nf7 := nf 7; have nf8 := nf 8; have nf9 := nf 9; have nf10 := nf 10; have Hn := Lib.hid hn; have HO := Lib.hid (ht5.2.off (g := wc.heap.size) (by simp)); have HP := Lib.hid (fun x0 x1 x2 x3 x4 x5 x6 x7 x8 x9 x10 => tldAt_put ht5.1 ht5.2 (P := wc.heap.size) (by simp) x0 x1 x2 x3 x4 x5 x6 x7 x8 x9 x10); clear nf hn)); clear hs5 ht5 hF5 hW5 hU5))
    all_goals
      go_wp2_with fail
      go_meet
      first
      | exact ⟨_, own5, sa, sc, fa, fc, ra, rc, rfl, (box11_set HG5.out HM15.out HM25.out Hn.out (by omega) e1 (by omega) _ _ _ _ _ _ _ _ _ _ _).1, (box11_set HG5.out HM15.out HM25.out Hn.out (by omega) e1 (by omega) _ _ _ _ _ _ _ _ _ _ _).2.1, (box11_set HG5.out HM15.out HM25.out Hn.out (by omega) e1 (by omega) _ _ _ _ _ _ _ _ _ _ _).2.2.1, (box11_set HG5.out HM15.out HM25.out Hn.out (by omega) e1 (by omega) _ _ _ _ _ _ _ _ _ _ _).2.2.2, HP.out _ _ _ _ _ _ _ _ _ _ _, HF5.out, HO.out, PLh⟩
      | exact ⟨_, own5, sa, sc, fa, fc, ra, rc, rfl, (box11_new HG5.out HM15.out HM25.out _ _ _ _ _ _ _ _ _ _ _ _).1, (box11_new HG5.out HM15.out HM25.out _ _ _ _ _ _ _ _ _ _ _ _).2.1, (box11_new HG5.out HM15.out HM25.out _ _ _ _ _ _ _ _ _ _ _ _).2.2.1, (box11_new HG5.out HM15.out HM25.out _ _ _ _ _ _ _ _ _ _ _ _).2.2.2, tldAt_below HT5.out.1 HB6.out HW5.out, HF5.out, tldAt_off HT5.out.1, Nat.lt_of_lt_of_le PLh hL5⟩
  case rest =>
  obtain ⟨g, own5, sa, sc, fa, fc, ra, rc, rfl, G5, M15, M25, N5, T5, F5, O5, L5⟩ := hcut
  clear CX G M1 M2 k0 k1 k2 k3 k4 k5 k6 k7 x0 x1 x2 x3 x4 x5 x6 x7 x8 z0
  obtain ⟨k0, k1, k2, k3, k4, k5, k6, k7⟩ := eight_at M15.out.hb
  obtain ⟨⟨u0, u1, u2, u3, u4, u5, u6, u7, u8, u9, u10⟩, uf⟩ := eleven_at N5.out.hb
  have uf1 := uf 1
  have PL5 := L5.out
  have HG := Lib.hid (G5.out.set (b := g) (by omega) N5.out.ho 1 (.int .i64 i))
  have HM := Lib.hid (M25.out.other (p := ⟨g, 1, none⟩) (by simp only; omega) (.int .i64 i))
  have HN := Lib.hid (N5.out.set (r := (0, 0)) 1 (.int .i64 i))
  have HT := tldAt_set T5.out O5.out 1 (.int .i64 i) (t2 := ⟨tc, i, ⟨kc, ki, kf, kh, ku⟩, tv, ts, tf, tr⟩) rfl rfl rfl
  have HTP := Lib.hid (fun x0 x1 x2 x3 x4 x5 x6 x7 x8 x9 x10 => tldAt_put HT F5.out (P := w.heap.size + 1) PL x0 x1 x2 x3 x4 x5 x6 x7 x8 x9 x10)
  have HFar := Lib.hid (F5.out.mono (w := w) (by omega))
  simp only [Array.setIfInBounds, List.set] at HN
  clear G5 M15 M25 N5 T5 O5 L5 uf HT
  go_upto_region 17 with (fail)
  generalize wc.setCell ⟨g, 1, none⟩ (.int .i64 i) = W8 at *
  clear u0 u1 u2 u3 u4 u5 u6 u7 u8 u9 u10 uf1 k0 k1 k2 k3 k4 k5 k6 k7
  obtain ⟨⟨z0, z1, z2, z3, z4, z5, z6, z7, z8, z9, z10⟩, zf⟩ := eleven_at HN.out.hb
  have zf0 := zf 0
  have zf1 := zf 1
  have zf2 := zf 2
  have zf3 := zf 3
  have zf4 := zf 4
  have zf5 := zf 5
  have zf6 := zf 6
  have zf7 := zf 7
  have zf8 := zf 8
  have zf9 := zf 9
  have zf10 := zf 10
  clear zf
  obtain ⟨⟨y0, y1, y2, y3, y4, y5, y6, y7, y8, y9, y10⟩, yf⟩ := eleven_at HM.out.hb
  have yf0 := yf 0
  have yf1 := yf 1
  have yf2 := yf 2
  have yf3 := yf 3
  have yf4 := yf 4
  have yf5 := yf 5
  have yf6 := yf 6
  have yf7 := yf 7
  have yf8 := yf 8
  have yf9 := yf 9
  have yf10 := yf 10
  clear yf
  obtain ⟨W6, hW6⟩ : ∃ xx, xx = put11 W8 (w.heap.size + 1) (.int .i64 tc) (.int .i64 i) (.int .i64 kc) (.int .i64 ki) (.int .i64 kf) (.int .i64 kh) (.int .i64 ku) (.int .i64 tv) (.slice sa ts.length sc) (.slice fa tf.length fc) (.slice ra tr.length rc) := ⟨_, rfl⟩
  have h6 := (HM.out).put11 (.int .i64 tc) (.int .i64 i) (.int .i64 kc) (.int .i64 ki) (.int .i64 kf) (.int .i64 kh) (.int .i64 ku) (.int .i64 tv) (.slice sa ts.length sc) (.slice fa tf.length fc) (.slice ra tr.length rc)
  have hG6 := (HG.out).set11 (by first | omega | (simp; done) | (simp; omega)) (HM.out).ho (.int .i64 tc) (.int .i64 i) (.int .i64 kc) (.int .i64 ki) (.int .i64 kf) (.int .i64 kh) (.int .i64 ku) (.int .i64 tv) (.slice sa ts.length sc) (.slice fa tf.length fc) (.slice ra tr.length rc)
  rw [← hW6] at h6 hG6
  unfold put11 at hW6
  have HW6 := Lib.hid hW6
  have HG6 := Lib.hid hG6
  obtain ⟨⟨t0, t1, t2, t3, t4, t5, t6, t7, t8, t9, t10⟩, -⟩ := eleven_at h6.hb
  clear hW6 hG6 h6
  go_wp2_with fail
  rw [← HW6.out]
  refine bodyPost_ret (v := .agg #[.int .i64 tc, .int .i64 i, .int .i64 kc, .int .i64 ki, .int .i64 kf, .int .i64 kh, .int .i64 ku, .int .i64 tv, .slice sa ts.length sc, .slice fa tf.length fc, .slice ra tr.length rc]) (by simp [results, Tryz.results45, go_sem, t0, t1, t2, t3, t4, t5, t6, t7, t8, t9, t10]) rfl ?_
  exact (by rw [hdef.out]; exact ⟨own5, _, _, _, rfl, (by rw [HW6.out]; exact HTP.out _ _ _ _ _ _ _ _ _ _ _), HG6.out.at', HG6.out.go, HFar.out⟩)
end Go.Proofs.YtjdedflfdlhkdaaGreatDoor

namespace Go.Proofs.YtjdedflfdlhkdaaGreatDoor
open Go.ChangeShapes Go.WideShapes Go.ChangeAt Go.RowKit
set_option linter.unusedVariables false
set_option linter.unusedSimpArgs false

theorem elTold : Elem Tryz.prog 57 11 136 (.agg #[.int .i64 0, .int .i64 0, .int .i64 0, .int .i64 0, .int .i64 0, .int .i64 0, .int .i64 0, .int .i64 0, .slice none 0 0, .slice none 0 0, .slice none 0 0]) := .of (by kernel_rfl) rfl (by decide)
def Tld.cells (t : Tld) (sv fv rv : Value) : List Value := tldC t.code t.who t.stk t.value sv fv rv
theorem Tld.cells_length (t : Tld) (sv fv rv : Value) : (t.cells sv fv rv).length = 11 := rfl
def tldsC (l : List Tld) (sv fv rv : Nat → Value) : List Value := (List.range l.length).flatMap fun i => (l.getD i (noT 0)).cells (sv i) (fv i) (rv i)
theorem tldsC_snoc (l : List Tld) (t : Tld) (sv fv rv : Nat → Value) (s f r : Value) : tldsC (l ++ [t]) (updF sv l.length s) (updF fv l.length f) (updF rv l.length r) = tldsC l sv fv rv ++ t.cells s f r := by
  unfold tldsC
  rw [List.length_append, List.length_singleton, List.range_succ, List.flatMap_append]
  congr 1
  · show (List.map _ _).flatten = (List.map _ _).flatten
    congr 1
    apply List.map_congr_left
    intro i hi
    have h := List.mem_range.1 hi
    rw [updF_ne _ _ (by omega), updF_ne _ _ (by omega), updF_ne _ _ (by omega)]
    simp [List.getD_eq_getElem?_getD, List.getElem?_append_left h]
  · simp [updF_same]
/-- The row of what was told. -/
structure OutAt (w : World) (own : Own) (B : Nat) (out : Value) (l : List Tld) (sv fv rv : Nat → Value) : Prop where
  row : w.ownsRow B 57 11 out l.length (tldsC l sv fv rv)
  free : ∀ g, out.ownBlock = some g → own g = none
  each : ∀ i (hi : i < l.length), TldAt w own l[i] (sv i) (fv i) (rv i) ∧ ∀ g, out.ownBlock = some g → Off3 g (sv i) (fv i) (rv i)
section
variable {w w1 w6 : World} {own own1 : Own} {B : Nat} {out v6 : Value} {l : List Tld} {sv fv rv : Nat → Value}
theorem OutAt.went (h : OutAt w own B out l sv fv rv) (hu : Went own own1 w w1) : OutAt w1 own1 B out l sv fv rv :=
  ⟨owns_kept h.row fun g hg => (hu.free (owns_block_of h.row hg).2.1 (h.free g hg)).1, fun g hg => (hu.free (owns_block_of h.row hg).2.1 (h.free g hg)).2, fun i hi => ⟨(h.each i hi).1.went hu, (h.each i hi).2⟩⟩
theorem OutAt.on (h : OutAt w own B out l sv fv rv) (hb : Below w.heap.size w w1) (hl : ∀ b, own b ≠ none → b < w.heap.size) : OutAt w1 own B out l sv fv rv := h.went (Went.of_below hb hl)
theorem tldAt_grown {t : Tld} {s f r : Value} (h : TldAt w own t s f r) (hg : w.grownBy w6 out.ownBlock) (ho : ∀ g, out.ownBlock = some g → Off3 g s f r) : TldAt w6 own t s f r := by
  have hm : ∀ {v : Value}, InF (Fr own w) v → InF (Fr own w6) v := fun hi => hi.mono fun b hb => ⟨hb.1, Nat.lt_of_lt_of_le hb.2 hg.size⟩
  cases hv : out.ownBlock with
  | none =>
    have hk : ∀ b, b < w.heap.size → True → w6.heap[b]? = w.heap[b]? := fun b hb _ => hg.block b hb (by rw [hv]; simp)
    exact ⟨h.s.kept (F := fun _ => True) (fun _ _ _ _ _ => trivial) hk, h.f.kept (F := fun _ => True) (fun _ _ _ _ _ => trivial) hk, h.r.kept (F := fun _ => True) (fun _ _ _ _ _ => trivial) hk, hm h.si, hm h.fi, hm h.ri⟩
  | some g =>
    obtain ⟨o1, o2, o3⟩ := ho g hv
    have hk : ∀ b, b < w.heap.size → b ≠ g → w6.heap[b]? = w.heap[b]? := fun b hb hne => hg.block b hb (by rw [hv]; simpa using hne)
    exact ⟨h.s.kept o1 hk, h.f.kept o2 hk, h.r.kept o3 hk, hm h.si, hm h.fi, hm h.ri⟩
/-- One more is told. -/
theorem OutAt.snoc (h : OutAt w own B out l sv fv rv) (hl : ∀ b, own b ≠ none → b < w.heap.size) (hB : B ≤ w.heap.size) (t : Tld) {s f r : Value} (ht : TldAt w own t s f r) (hf : ∀ g, out.ownBlock = some g → Off3 g s f r)
    (h6 : w6.ownsRow 0 57 11 v6 (l.length + 1) (tldsC l sv fv rv ++ t.cells s f r)) (ha : AtOr w out v6) (hg : w.grownBy w6 out.ownBlock) :
    OutAt w6 own B v6 (l ++ [t]) (updF sv l.length s) (updF fv l.length f) (updF rv l.length r) := by
  have hv6 : ∀ g, v6.ownBlock = some g → B ≤ g ∧ own g = none := fun g hg6 => by
    rcases ha g hg6 with h1 | h1
    · exact ⟨(owns_block_of h.row h1).1, h.free g h1⟩
    · refine ⟨Nat.le_trans hB h1, ?_⟩
      cases ho : own g with
      | none => rfl
      | some t => exact absurd (hl g (by rw [ho]; simp)) (by omega)
  have off : ∀ {t : Tld} {s f r : Value}, TldAt w own t s f r → (∀ g, out.ownBlock = some g → Off3 g s f r) → ∀ g, v6.ownBlock = some g → Off3 g s f r := fun ht ho g hg6 => by
    rcases ha g hg6 with h1 | h1
    · exact ho g h1
    · exact ⟨ht.si.mono fun b hb => by have := hb.2; omega, ht.fi.mono fun b hb => by have := hb.2; omega, ht.ri.mono fun b hb => by have := hb.2; omega⟩
  refine ⟨?_, fun g hg6 => (hv6 g hg6).2, fun i hi => ?_⟩
  · rw [List.length_append, List.length_singleton, tldsC_snoc]
    refine ⟨h6.1, ?_⟩
    rcases h6.2 with h | ⟨g, cap, cur, he, hg0, r⟩
    · exact .inl h
    · exact .inr ⟨g, cap, cur, he, (hv6 g (by rw [he]; rfl)).1, r⟩
  · by_cases e : i = l.length
    · subst e
      rw [updF_same, updF_same, updF_same]
      simp only [List.getElem_append_right (Nat.le_refl _), Nat.sub_self, List.getElem_cons_zero]
      exact ⟨tldAt_grown ht hg hf, off ht hf⟩
    · have hi' : i < l.length := by simp at hi; omega
      rw [updF_ne _ _ e, updF_ne _ _ e, updF_ne _ _ e, List.getElem_append_left hi']
      exact ⟨tldAt_grown (h.each i hi').1 hg (h.each i hi').2, off (h.each i hi').1 (h.each i hi').2⟩
end
def stps (l : List Stp) : List Value := l.flatMap Stp.cells
theorem wFold_ok (c : Cfg) (hc : c.Ok) (l : List Stp) : ∀ n, n ≤ l.length → n ≤ 1000 → WOk c n (wFold c (l.take n)).1 := by
  intro n
  induction n with
  | zero => intro _ _; exact wld0_ok c hc
  | succ n ih =>
    intro h1 h2
    have e : l.take (n + 1) = l.take n ++ [l[n]] := by rw [List.take_succ_eq_append_getElem (by omega)]
    unfold wFold at ih ⊢
    rw [e, List.foldl_append]
    exact step_ok hc (ih (by omega) (by omega)) l[n] (by omega)
theorem wFold_len (c : Cfg) : ∀ (l : List Stp), (wFold c l).2.length = l.length := by
  intro l
  have : ∀ (l : List Stp) (a : Wld × List Tld), (l.foldl (wStep c) a).2.length = a.2.length + l.length := by
    intro l
    induction l with
    | nil => intro a; rfl
    | cons x t ih => intro a; rw [List.foldl_cons, ih]; simp [wStep]; omega
  have := this l (wld0 c, [])
  simpa [wFold] using this
theorem wFold_snoc (c : Cfg) (l : List Stp) (x : Stp) : wFold c (l ++ [x]) = ((wFold c l).1.step c x |>.2, (wFold c l).2 ++ [((wFold c l).1.step c x).1]) := by
  unfold wFold; rw [List.foldl_append]; rfl
end Go.Proofs.YtjdedflfdlhkdaaGreatDoor

namespace Go.Proofs.YtjdedflfdlhkdaaGreatDoor
open Go.ChangeShapes Go.WideShapes Go.ChangeAt Go.RowKit
set_option linter.unusedVariables false
set_option linter.unusedSimpArgs false

theorem elEnv : Elem Tryz.prog 86 4 32 (.agg #[.int .i64 0, .int .i64 0, .int .i64 0, .int .i64 0]) := .of (by kernel_rfl) rfl (by decide)
/-- A block of nobody's has changed, as it likes; new ones have come. -/
theorem WAt.free {w w' : World} {c : Cfg} {X : Adr} {own : Own} {N : Nat} {s : Wld} (h : WAt w c X own N s) {b : Nat} (hb : own b = none) (hX : ∀ v : Value, v = X.vl ∨ v = X.vm → InF (fun g => g ≠ b) v) (h0 : b ≠ 0) (hg : w.grownBy w' (some b)) : WAt w' c X own N s := by
  have hs : w.heap.size ≤ w'.heap.size := hg.size
  have hne : ∀ g, g < w.heap.size → g ≠ b → w'.heap[g]? = w.heap[g]? := fun g hg1 hg2 => hg.block g hg1 (by simpa using hg2)
  have hfr : ∀ g, Fr own w g → Fr own w' g := fun g hg => ⟨hg.1, Nat.lt_of_lt_of_le hg.2 hs⟩
  have ht : ∀ g t, own g = some t → g ≠ b := fun g t hg hh => by rw [hh, hb] at hg; cases hg
  have lt : ∀ {g o}, w.heap[g]? = some o → g < w.heap.size := fun hh => (Array.getElem?_eq_some_iff.1 hh).1
  have f := h.fix
  refine ⟨fun g hg => Nat.lt_of_lt_of_le (h.lt g hg) hs, ⟨f.tw, f.tr, f.tq, f.tb, by rw [hne _ (lt f.head) (ht _ _ f.tw)]; exact f.head, owns_kept f.rb fun g hg => ?_, owns_kept f.rq fun g hg => ?_, fun i hi => by rw [hne _ (lt (f.br i hi)) (ht _ _ (f.tb i hi))]; exact f.br i hi, ⟨f.cfg.hl.kept (hX _ (.inl rfl)) fun g hg1 hg => hne g hg1 hg, f.cfg.hm.kept (hX _ (.inr rfl)) fun g hg1 hg => hne g hg1 hg⟩, f.il.mono hfr, f.im.mono hfr, f.od.kept (hne 0 f.io.2 (Ne.symm h0)), hfr _ f.io⟩, ?_, ?_, ?_, ?_, ?_, ?_, ?_⟩
  · have hl := (owns_block_of f.rb hg).2.1
    simp only [Value.ownBlock, Option.some.injEq] at hg; subst hg; exact hne _ hl (ht _ _ f.tr)
  · have hl := (owns_block_of f.rq hg).2.1
    simp only [Value.ownBlock, Option.some.injEq] at hg; subst hg; exact hne _ hl (ht _ _ f.tq)
  · intro i hi
    have q := h.sh i hi
    refine ⟨q.tag, Nat.lt_of_lt_of_le q.lt hs, fun k hk => ?_, q.ok⟩
    obtain ⟨v, q1, q2, q3⟩ := q.each k hk
    exact ⟨v, q1.same (hne _ q.lt (ht _ _ q.tag)), owns_kept q2 fun g hg => hne g (owns_block_of q2 hg).2.1 (ht _ _ (q3 g hg)), q3⟩
  · exact fun i hi => ⟨(h.asks i hi).tag, by rw [hne _ (h.asks i hi).lt (ht _ _ (h.asks i hi).tag)]; exact (h.asks i hi).cells⟩
  · exact fun i hi => ⟨(h.gain i hi).tag, by rw [hne _ (h.gain i hi).lt (ht _ _ (h.gain i hi).tag)]; exact (h.gain i hi).cells⟩
  · intro i hi
    obtain ⟨vs, q1, q2⟩ := (h.st i hi).ex
    exact ⟨(h.st i hi).tag, vs, ⟨by rw [hne _ q1.lt (ht _ _ (h.st i hi).tag)]; exact q1.cells, fun k hk => (q1.rows k hk).kept (q2 k hk) fun g hg1 hg => hne g hg1 (ht _ _ hg), q1.ok⟩, q2⟩
  · intro k hk
    obtain ⟨gw, gg, gq, cq, q, t1, t2, t3, t4⟩ := (h.bk k hk).ex
    obtain ⟨l1, l2, l3, l4⟩ := q.lt
    exact ⟨gw, gg, gq, cq, q.kept (hne _ l1 (ht _ _ t1)) (hne _ l2 (ht _ _ t2)) (hne _ l3 (ht _ _ t3)) (hne _ l4 (ht _ _ t4)), t1, t2, t3, t4⟩
  · obtain ⟨v, lv, n, q1, q2, q3, q4, q5, q6⟩ := h.off.ex
    exact ⟨⟨v, lv, n, by rw [hne _ (lt q1) (ht _ _ h.off.lo.1)]; exact q1, owns_kept q2 fun g hg => hne g (owns_block_of q2 hg).2.1 (ht _ _ (q6 g hg)), q3.mono fun a b _ _ r => ⟨r.f, r.t, r.d.kept r.i fun x hx ho => hne x hx (ht _ _ ho), r.i⟩, q4.kept (hne _ q4.lt (ht _ _ h.off.lo.2)), q5, q6⟩, h.off.ok, h.off.len, h.off.lo⟩
  · obtain ⟨n, q, hn⟩ := h.lost.ex
    exact ⟨h.lost.tag, n, q.kept (hne _ q.lt (ht _ _ h.lost.tag)), hn⟩
section
variable {w w1 w2 : World} {own own1 own2 : Own} {c : Cfg} {X : Adr} {N M : Nat} {s s2 : Wld}
/-- A row of the call's own has grown. -/
theorem Gone.grown (g : Gone w own w1 c X own1 N s) {v : Value} (hF : ∀ b, v.ownBlock = some b → w.heap.size ≤ b ∧ own1 b = Option.none) (hg : w1.grownBy w2 v.ownBlock) : Gone w own w2 c X own1 N s := by
  cases hv : v.ownBlock with
  | none =>
    rw [hv] at hg
    exact g.on ⟨hg.os, hg.tape, hg.output, hg.size, fun k hk => hg.block k hk (by simp)⟩
  | some b =>
    obtain ⟨h1, h2⟩ := hF b hv
    rw [hv] at hg
    refine ⟨g.at'.free h2 (fun v hv => ?_) (by have := g.i0; omega) hg, ⟨?_, g.go.same, fun x hx hn => Nat.lt_of_lt_of_le (g.go.new x hx hn) hg.size⟩, g.il, g.im, g.i0⟩
    · rcases hv with rfl | rfl
      · exact g.il.mono fun x hx => by omega
      · exact g.im.mono fun x hx => by omega
    · have q := g.go.wr
      exact ⟨hg.os.trans q.os, hg.tape.trans q.tape, hg.output.trans q.output, Nat.le_trans q.size hg.size, fun x hx hf => by rw [hg.block x (Nat.lt_of_lt_of_le hx q.size) (by simp only [ne_eq, Option.some.injEq]; omega)]; exact q.block x hx hf⟩
theorem Mine.grown {own : Own} {b : Nat} {o : Obj} {ob : Option Nat} (m : Mine own w1 b o) (hg : w1.grownBy w2 ob) (hne : ob ≠ some b) : Mine own w2 b o :=
  ⟨m.ho, by rw [hg.block b m.lt (fun e => hne e.symm)]; exact m.hb⟩
end
def nil8 (sv rv : Value) : Obj := .cells #[.int .i64 0, .int .i64 0, .int .i64 0, .int .i64 0, .int .i64 0, .int .i64 0, .int .i64 0, .int .i64 0, sv, .slice none 0 0, rv] 57 (0, 0)
/-- A row of the tick's own. -/
structure Mrow (w : World) (own : Own) (B : Nat) (e : TypeId) (sz : Nat) (v : Value) (n : Nat) (xs : List Value) : Prop where
  row : w.ownsRow B e sz v n xs
  free : ∀ g, v.ownBlock = some g → own g = none
theorem Mrow.went {w w' : World} {own own' : Own} {B : Nat} {e : TypeId} {sz n : Nat} {v : Value} {xs : List Value} (h : Mrow w own B e sz v n xs) (hu : Went own own' w w') : Mrow w' own' B e sz v n xs :=
  ⟨owns_kept h.row fun g hg => (hu.free (owns_block_of h.row hg).2.1 (h.free g hg)).1, fun g hg => (hu.free (owns_block_of h.row hg).2.1 (h.free g hg)).2⟩
theorem Mrow.on {w w' : World} {own : Own} {B : Nat} {e : TypeId} {sz n : Nat} {v : Value} {xs : List Value} (h : Mrow w own B e sz v n xs) (hb : Below w.heap.size w w') : Mrow w' own B e sz v n xs :=
  ⟨owns_below h.row hb, h.free⟩
theorem Mrow.grown {w w' : World} {own : Own} {B : Nat} {e e' : TypeId} {sz n sz' n' : Nat} {v u : Value} {xs ys : List Value} (h : Mrow w own B e sz v n xs) (k : Mrow w own B e' sz' u n' ys) (he : e ≠ e') (hg : w.grownBy w' u.ownBlock) : Mrow w' own B e sz v n xs :=
  ⟨owns_kept h.row fun g hg1 => hg.block g (owns_block_of h.row hg1).2.1 fun e0 => by
    obtain ⟨_, _, cs, h1⟩ := owns_block_of h.row hg1
    obtain ⟨_, _, ds, h2⟩ := owns_block_of k.row e0.symm
    rw [h1] at h2
    simp only [Option.some.injEq, Obj.cells.injEq] at h2
    exact he h2.2.1, h.free⟩
theorem Mrow.set {w : World} {own : Own} {B : Nat} {e : TypeId} {sz n : Nat} {v : Value} {xs : List Value} (h : Mrow w own B e sz v n xs) {R : Nat} (hR : R < B) (j : Nat) (u : Value) : Mrow (w.setCell ⟨R, j, none⟩ u) own B e sz v n xs :=
  ⟨owns_kept h.row fun g hg => Below.heap_setCell _ _ _ _ (by have := (owns_block_of h.row hg).1; simp only; omega), h.free⟩
/-- In the middle of a tick. -/
structure WTk (w0 : World) (own : Own) (w : World) (c : Cfg) (X : Adr) (own' : Own) (N : Nat) (s : Wld) (sv : Value) (l : List Env) (rv : Value) (rp : List Int) : Prop where
  g : Gone w0 own w c X own' N s
  b1 : Mine own' w w0.heap.size (.cells #[.pointer (some ⟨X.W, 0, none⟩)] 79 (0, 0))
  r : Mine own' w (w0.heap.size + 1) (nil8 sv rv)
  s : Mrow w own' (w0.heap.size + 2) 86 4 sv l.length (envC l)
  p : Mrow w own' (w0.heap.size + 2) 3 1 rv rp.length (ints rp)
section
variable {w0 w w1 w2 : World} {own own1 own2 : Own} {c : Cfg} {X : Adr} {N M : Nat} {s s2 : Wld} {sv rv : Value} {l : List Env} {rp : List Int}
theorem WTk.on (t : WTk w0 own w1 c X own1 N s sv l rv rp) (hb : Below w1.heap.size w1 w2) : WTk w0 own w2 c X own1 N s sv l rv rp :=
  ⟨t.g.on hb, t.b1.on hb, t.r.on hb, t.s.on hb, t.p.on hb⟩
theorem WTk.step (t : WTk w0 own w1 c X own1 N s sv l rv rp) (h : WAt w2 c X own2 M s2) (k : Went own1 own2 w1 w2) : WTk w0 own w2 c X own2 M s2 sv l rv rp :=
  ⟨t.g.step h k, t.b1.went k, t.r.went k, t.s.went k, t.p.went k⟩
theorem envC_snoc (l : List Env) (e : Env) : envC (l ++ [e]) = envC l ++ e.cells := by simp [envC]
/-- An envelope more. -/
theorem WTk.sent (t : WTk w0 own w1 c X own1 N s sv l rv rp) (e : Env) {v6 : Value} {w6 : World} (h6 : w6.ownsRow 0 86 4 v6 (l.length + 1) (envC l ++ e.cells)) (ha : AtOr w1 sv v6) (hg : w1.grownBy w6 sv.ownBlock) :
    WTk w0 own (w6.setCell ⟨w0.heap.size + 1, 8, none⟩ v6) c X own1 N s v6 (l ++ [e]) rv rp := by
  have hF : ∀ b, sv.ownBlock = some b → w0.heap.size ≤ b ∧ own1 b = none := fun b hb => ⟨by have := (owns_block_of t.s.row hb).1; omega, t.s.free b hb⟩
  have hR : sv.ownBlock ≠ some (w0.heap.size + 1) := fun e => by have := (owns_block_of t.s.row e).1; omega
  have hB : sv.ownBlock ≠ some w0.heap.size := fun e => by have := (owns_block_of t.s.row e).1; omega
  have g6 := t.g.grown hF hg
  have r6 := t.r.grown hg hR
  have hv6 : ∀ g, v6.ownBlock = some g → w0.heap.size + 2 ≤ g ∧ own1 g = none := fun g hg6 => by
    rcases ha g hg6 with h1 | h1
    · exact ⟨(owns_block_of t.s.row h1).1, t.s.free g h1⟩
    · have hz := t.g.go.wr.size
      refine ⟨?_, t.g.none h1⟩
      have := t.r.lt
      omega
  have hrow : w6.ownsRow (w0.heap.size + 2) 86 4 v6 (l.length + 1) (envC l ++ e.cells) := by
    refine ⟨h6.1, ?_⟩
    rcases h6.2 with h | ⟨g, cap, cur, he, hg0, r⟩
    · exact .inl h
    · exact .inr ⟨g, cap, cur, he, (hv6 g (by rw [he]; rfl)).1, r⟩
  refine ⟨g6.set (by omega) r6.ho 8 v6, (t.b1.grown hg hB).other (by simp only; omega) v6, ?_, ?_, (t.p.grown t.s (by decide) hg).set (by omega) 8 v6⟩
  · have := r6.set (r := (0, 0)) 8 v6
    exact this
  · rw [envC_snoc, List.length_append]
    exact (Mrow.mk hrow fun g hg6 => (hv6 g hg6).2).set (by omega) 8 v6
/-- A report more. -/
theorem WTk.told (t : WTk w0 own w1 c X own1 N s sv l rv rp) (e : Int) {v6 : Value} {w6 : World} (h6 : w6.ownsRow 0 3 1 v6 (rp.length + 1) (ints rp ++ [.int .i64 e])) (ha : AtOr w1 rv v6) (hg : w1.grownBy w6 rv.ownBlock) :
    WTk w0 own (w6.setCell ⟨w0.heap.size + 1, 10, none⟩ v6) c X own1 N s sv l v6 (rp ++ [e]) := by
  have hF : ∀ b, rv.ownBlock = some b → w0.heap.size ≤ b ∧ own1 b = none := fun b hb => ⟨by have := (owns_block_of t.p.row hb).1; omega, t.p.free b hb⟩
  have hR : rv.ownBlock ≠ some (w0.heap.size + 1) := fun e => by have := (owns_block_of t.p.row e).1; omega
  have hB : rv.ownBlock ≠ some w0.heap.size := fun e => by have := (owns_block_of t.p.row e).1; omega
  have g6 := t.g.grown hF hg
  have r6 := t.r.grown hg hR
  have hv6 : ∀ g, v6.ownBlock = some g → w0.heap.size + 2 ≤ g ∧ own1 g = none := fun g hg6 => by
    rcases ha g hg6 with h1 | h1
    · exact ⟨(owns_block_of t.p.row h1).1, t.p.free g h1⟩
    · have hz := t.g.go.wr.size
      refine ⟨?_, t.g.none h1⟩
      have := t.r.lt
      omega
  have hrow : w6.ownsRow (w0.heap.size + 2) 3 1 v6 (rp.length + 1) (ints rp ++ [.int .i64 e]) := by
    refine ⟨h6.1, ?_⟩
    rcases h6.2 with h | ⟨g, cap, cur, he, hg0, r⟩
    · exact .inl h
    · exact .inr ⟨g, cap, cur, he, (hv6 g (by rw [he]; rfl)).1, r⟩
  refine ⟨g6.set (by omega) r6.ho 10 v6, (t.b1.grown hg hB).other (by simp only; omega) v6, ?_, (t.s.grown t.p (by decide) hg).set (by omega) 10 v6, ?_⟩
  · have := r6.set (r := (0, 0)) 10 v6
    exact this
  · rw [show ints (rp ++ [e]) = ints rp ++ [.int .i64 e] by simp [ints], List.length_append]
    exact (Mrow.mk hrow fun g hg6 => (hv6 g hg6).2).set (by omega) 10 v6
end
theorem send_cell {w0 w1 w6 : World} {own own1 : Own} {c : Cfg} {X : Adr} {N : Nat} {s : Wld} {sv rv : Value} {l : List Env} {rp : List Int} (t : WTk w0 own w1 c X own1 N s sv l rv rp) (hg : w1.grownBy w6 sv.ownBlock) : w6.cell? ⟨w0.heap.size + 1, 8, none⟩ = some sv ∧ w6.frozen? ⟨w0.heap.size + 1, 8, none⟩ = false := by
  have hR : sv.ownBlock ≠ some (w0.heap.size + 1) := fun e => by have := (owns_block_of t.s.row e).1; omega
  have r6 := (t.r.grown hg hR).hb
  unfold nil8 at r6
  obtain ⟨⟨-, -, -, -, -, -, -, -, z8, -, -⟩, zf⟩ := eleven_at r6
  exact ⟨z8, zf 8⟩
theorem tell_cell {w0 w1 w6 : World} {own own1 : Own} {c : Cfg} {X : Adr} {N : Nat} {s : Wld} {sv rv : Value} {l : List Env} {rp : List Int} (t : WTk w0 own w1 c X own1 N s sv l rv rp) (hg : w1.grownBy w6 rv.ownBlock) : w6.cell? ⟨w0.heap.size + 1, 10, none⟩ = some rv ∧ w6.frozen? ⟨w0.heap.size + 1, 10, none⟩ = false := by
  have hR : rv.ownBlock ≠ some (w0.heap.size + 1) := fun e => by have := (owns_block_of t.p.row e).1; omega
  have r6 := (t.r.grown hg hR).hb
  unfold nil8 at r6
  obtain ⟨⟨-, -, -, -, -, -, -, -, -, -, z8⟩, zf⟩ := eleven_at r6
  exact ⟨z8, zf 10⟩
theorem own_base {w : World} {B e sz n : Nat} {v : Value} {xs : List Value} (h : w.ownsRow B e sz v n xs) : w.ownsRow 0 e sz v n xs := owns_base h (Nat.zero_le _)
end Go.Proofs.YtjdedflfdlhkdaaGreatDoor

namespace Go.Proofs.YtjdedflfdlhkdaaGreatDoor
open Go.ChangeShapes Go.WideShapes Go.ChangeAt Go.RowKit
set_option linter.unusedVariables false
set_option linter.unusedSimpArgs false

set_option maxRecDepth 100000 in
set_option maxHeartbeats 4000000 in
theorem cAsks {w : World} {c : Cfg} {vl vm : Value} (hc : c.Ok) (h : CfgAt w c vl vm) (v : Value) (l : List Int) (hv : Has w 1 v l.length (ints l)) (hl : ∀ x ∈ l, 0 ≤ x ∧ x ≤ 1048576) (hlen : l.length = c.minted.length) :
    Calls Tryz.prog 63 #[.agg (c.cells vl vm), v] w fun e w' => ∃ v', e = .returned (.tuple #[v', .int .i64 0]) ∧ w'.ownsRow w.heap.size 5 1 v' (recSize (askF l)) (recBytes (askF l)) ∧ Below w.heap.size w w' := by
  have hb := cfg_box w c vl vm
  obtain ⟨-, -, -, x3, -⟩ := cfg_at (heap_alloc_new w (.cells (c.cells vl vm) 25))
  obtain ⟨y0, y1, y2, -, y4⟩ := cfg_at (heap_alloc_new w (.cells (c.cells vl vm) 25))
  have H := Lib.hid (h.on hb)
  have V := Lib.hid (hv.below hb)
  have Hb := Lib.hid hb
  have hi := hc.items
  have KM := Lib.hid (fun (X : World) (hX : CfgAt X c vl vm) => cFMay hc hX)
  have HL := Lib.hid hl
  have Hok := Lib.hid (askF_ok hl (by omega))
  obtain ⟨_, la, cl, rfl, hcl1, hcl2, _⟩ := h.hl
  obtain ⟨_, ma, cm, rfl, hcm1, hcm2, _⟩ := h.hm
  obtain ⟨_, va, cv, rfl, hv1, hv2, _⟩ := hv
  unfold maxLen at hcl2 hcm2 hv2
  rw [← hlen] at x3 hcm1 hi
  have hnn : ((l.length : Int) != (l.length : Int)) = false := by simp
  unfold Cfg.cells at x3 y0 y1 y2 y4 Hb H V hb KM ⊢
  rw [← hlen] at Hb H V hb KM y0 y1 y2 y4 ⊢
  clear hb hc h hl hlen
  go_enter Tryz.func63, Tryz.ntmps63
  go_upto_region 1 with (fail)
  generalize (w.alloc (.cells #[.int .i64 c.n, .slice la c.labs.length cl, .int .i64 c.ticks, .slice ma l.length cm, .int .i64 c.cap] 25)) = W at *
  go_wp2_with fail
  refine (KM.out _ H.out).mono ?_
  rintro e w1 ⟨rfl, hb1⟩
  replace x3 := cell_on hb1 x3
  have V1 := Lib.hid (V.out.below hb1)
  have Hb1 := Lib.hid (Hb.out.trans (hb1.mono Hb.out.size))
  clear hb1 KM H V y0 y1 y2 y4
  go_wp2_with fail
  clear x3
  go_loopw [6, 8, 20] (fun out _ i wr => ∃ k : Nat, k ≤ l.length ∧ i = .int .i64 k ∧ Hid (wr.ownsRow w1.heap.size 158 2 out k (flds (askF (l.take k)))) ∧ Hid (Below w1.heap.size w1 wr)) (fun _ _ i _ => l.length - (intOf i).toNat)
  case atStart => exact ⟨0, by omega, rfl, World.ownsRow_nil _ _ _ _, Below.refl _ _⟩
  case round =>
    obtain ⟨k, hk, rfl, HO, HB⟩ := hrel
    by_cases hlt : k < l.length
    · have hltz : (k : Int) < (l.length : Int) := by omega
      obtain ⟨⟨hl0, _⟩, _, _, he, _, _, hcc⟩ := V1.out
      simp only [Value.slice.injEq] at he
      obtain ⟨rfl, -, rfl⟩ := he
      obtain ⟨b, o, rfl, hcell⟩ := hcc (by simp; omega)
      have z0 := cell_on HB.out (hcell k _ (ints_get l k hlt))
      have hy := HL.out _ (List.getElem_mem hlt)
      have hsn := askF_snoc l k hlt
      have Hsn := Lib.hid hsn
      generalize l[k] = y at *
      obtain ⟨aw, cw, rfl⟩ := owns_slice HO.out
      have hsz : w1.heap.size ≤ wr.heap.size := HB.out.size
      have CI := Lib.hid fun X => cfin y 0 1048576 hy.1 hy.2 X
      clear hl0 hcc hcell hsn
      go_wp2_with (first | (go_at_call 46; refine (CI.out _).mono ?_; rintro e w' ⟨rfl, rfl⟩) | (at_builtin; refine wp_app1 (w0 := wr) 156 158 2 16 _ elField Tryz.underlying156 w1.heap.size _ _ _ HO.out (by repeat (first | exact Below.refl _ _ | refine Below.drew ?_ | refine Below.alloc ?_ (by first | (simp; done) | (simp; omega)) _ | refine Below.setCell ?_ (by first | (simp; done) | (simp; omega)) _)) [.int .i64 21, .int .i64 y] rfl _ _ rfl rfl rfl (by first | exact heap_alloc_new _ _ | (simp only [heap_drew, heap_drewN]; exact heap_alloc_new _ _)) (by simp) rfl rfl (by omega) (by omega) hsz ?_; intro v3 w3 hown3 hgrow3 hb3))
      go_roundw
      case rel =>
        refine ⟨k + 1, by omega, by go_num, ?_, HB.out.trans hb3⟩
        rw [Hsn.out, ← flds_snoc]
        exact hown3
      case measure => first | (simp [intOf]; done) | (simp [intOf]; omega)
    · obtain rfl : k = l.length := by omega
      rw [List.take_of_length_le (Nat.le_refl _)] at HO
      obtain ⟨aw, cw, rfl⟩ := owns_slice HO.out
      have CP := Lib.hid (cpack _ (askF l) wr (by rw [askF_len]; exact Has.of_owns HO.out) Hok.out)
      have HBw : Hid (Below w.heap.size w wr) := Hb1.out.trans (HB.out.mono Hb1.out.size)
      clear HO HB
      go_wp2_with fail
      refine CP.out.mono ?_
      rintro e w5 ⟨v5, rfl, hown5, hb5⟩
      obtain ⟨a5, c5, rfl⟩ := owns_slice hown5
      have hfin : w5.ownsRow w.heap.size 5 1 (.slice a5 (recSize (askF l)) c5) (recSize (askF l)) (recBytes (askF l)) ∧ Below w.heap.size w w5 := ⟨owns_base hown5 HBw.out.size, HBw.out.trans (hb5.mono HBw.out.size)⟩
      have Hfin := Lib.hid hfin
      clear hown5 hb5 hfin CP
      go_wp2_with fail
      go_ret2
      exact ⟨_, rfl, Hfin.out⟩
end Go.Proofs.YtjdedflfdlhkdaaGreatDoor
