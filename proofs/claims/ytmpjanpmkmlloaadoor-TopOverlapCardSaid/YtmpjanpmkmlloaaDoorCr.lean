/- Contracts of package chordal: the cliques in a row. The table of bits is laid (Tab). -/
import Derived.Test.YtmpjanpmkmlloaaDoorCn
import Derived.Test.YtmpjanpmkmlloaaDoorCi
import Derived.Test.YtmpjanpmkmlloaaDoorGm
namespace Go.Proofs.YtmpjanpmkmlloaaDoor
open Go Go.RowKit VC
set_option linter.unusedSimpArgs false
set_option linter.unusedVariables false

/-- A slice cut by one element. -/
theorem Own.cut {w : World} {B : Nat} {e : TypeId} {g n cap : Nat} {cs : List Value} {u : Value} (h : Own w B e 1 (.slice (some ⟨g, 0, none⟩) (n + 1) cap) (n + 1) (cs ++ [u])) : Own w B e 1 (.slice (some ⟨g, 0, none⟩) n cap) n cs := by
  have hl := h.1
  have hn : cs.length = n := by simp at hl; omega
  refine ⟨by omega, .inr ?_⟩
  rcases h.2 with ⟨h1, _⟩ | ⟨g', cap', cur, he, hb, hgg, hnc, hcm, hcs, htake⟩
  · cases h1
  · simp only [Value.slice.injEq, Option.some.injEq, Addr.mk.injEq, and_true, true_and] at he
    obtain ⟨rfl, rfl⟩ := he
    refine ⟨g, cap, cur, rfl, hb, hgg, by omega, hcm, hcs, ?_⟩
    have h3 := congrArg (List.take n) htake
    rw [List.take_take] at h3
    have e1 : min n ((n + 1) * 1) = n * 1 := by omega
    rw [e1] at h3
    rw [h3, ← hn]
    simp
theorem own_some {w : World} {B : Nat} {e : TypeId} {v : Value} {n : Nat} {cs : List Value} (h : Own w B e 1 v n cs) (hn : 0 < n) : ∃ g cap, v = .slice (some ⟨g, 0, none⟩) n cap ∧ B ≤ g ∧ n ≤ cap := by
  rcases h.2 with ⟨_, h0⟩ | ⟨g, cap, cur, rfl, hb, _, hnc, _⟩
  · omega
  · exact ⟨g, cap, rfl, hb, hnc⟩
def lineClo (bb : Nat) : Value := .func (.func 106) #[] #[.pointer (some ⟨bb + 1, 0, none⟩), .pointer (some ⟨bb, 0, none⟩), .pointer (some ⟨bb + 2, 0, none⟩)]
structure LEnv (w0 : World) (bb : Nat) (lv : Value) (L : List Nat) : Prop where
  size : w0.heap.size = bb + 1
  cl : w0.cell? ⟨bb, 0, none⟩ = some lv
  sl : SlI w0 lv (ofN L)
  few : L.length ≤ 12
  small : ∀ i, gn L i < 4096
structure LSt (w0 : World) (bb : Nat) (row : List Nat) (w : World) : Prop where
  gr : Grow w0 w
  ct : w.cell? ⟨bb + 2, 0, none⟩ = some (lineClo bb)
  sz : bb + 3 ≤ w.heap.size
  row : ∃ rv, Box w (bb + 1) rv ∧ OwnI w (bb + 3) rv (ofN row)
theorem LSt.fr {S : Nat → Prop} {w0 w w' : World} {bb : Nat} {row row' : List Nat} (h0 : w0.heap.size = bb + 1) (h : LSt w0 bb row w) (hf : Fr S w w') (hs : ∀ k, S k → k = bb + 1 ∨ bb + 3 ≤ k) (hr : ∃ rv, Box w' (bb + 1) rv ∧ OwnI w' (bb + 3) rv (ofN row')) : LSt w0 bb row' w' :=
  ⟨h.gr.fr hf fun i hi e => by rcases hs i e with h | h <;> omega, hf.cell h.ct fun e => by rcases hs _ e with h | h <;> simp at h <;> omega, by have := h.sz; have := hf.size; omega, hr⟩
theorem LSt.grow {w0 w w' : World} {bb : Nat} {row : List Nat} (h0 : w0.heap.size = bb + 1) (h : LSt w0 bb row w) (hg : Grow w w') : LSt w0 bb row w' :=
  h.fr h0 (Fr.of_grow (S := fun _ => False) hg) (fun _ h => h.elim) (by obtain ⟨rv, h1, h2⟩ := h.row; exact ⟨rv, h1.grow hg, h2.grow hg⟩)
theorem lineC {w0 : World} {bb : Nat} {lv : Value} {L : List Nat} (E : LEnv w0 bb lv L) : ∀ (f used seen over : Nat) (row : List Nat) (w : World), LSt w0 bb row w → row.length + f = L.length → used < 4096 → seen < 4096 → over < 4096 →
    Calls Tryd.prog 106 #[.int .i64 (used : Int), .int .i64 (seen : Int), .int .i64 (over : Int), .pointer (some ⟨bb + 1, 0, none⟩), .pointer (some ⟨bb, 0, none⟩), .pointer (some ⟨bb + 2, 0, none⟩)] w fun e w' =>
      ∃ (b : Bool) (res : List Nat), e = .returned (.bool b) ∧ LSt w0 bb res w' ∧ Grow w0 w' ∧ (b = true → rdfs L f used seen over row = some res) ∧ (b = false → rdfs L f used seen over row = none ∧ res = row)
  | 0, used, seen, over, row, w, hst, hlen, hu, hse, hov => by
    refine f106_calls _ _ _ _ _ _ ?_
    obtain ⟨rv, hb, ho⟩ := hst.row
    refine ⟨rv, hb.cell, ho.slI.ln ⟨lv, hst.gr.cell E.cl, (E.sl.grow hst.gr).ln (condD (fun _ => ?_) fun h => ?_)⟩⟩
    · exact ⟨true, row, rfl, hst, hst.gr, fun _ => rfl, fun h => by (cases h)⟩
    · simp at h; omega
  | f + 1, used, seen, over, row, w, hst, hlen, hu, hse, hov => by
    refine f106_calls _ _ _ _ _ _ ?_
    obtain ⟨rv, hb, ho⟩ := hst.row
    have hfew := E.few
    refine ⟨rv, hb.cell, ho.slI.ln ⟨lv, hst.gr.cell E.cl, (E.sl.grow hst.gr).ln (condD (fun h => by simp at h; omega) fun _ => ⟨lv, hst.gr.cell E.cl, (E.sl.grow hst.gr).ln ?_⟩)⟩⟩
    rw [ofN_len]
    refine ⟨fun t w' => ∃ i : Nat, t = i ∧ i ≤ L.length ∧ LSt w0 bb row w' ∧ ∀ j, j < i → rdfsF L f used seen over row j = none, fun t _ => L.length - t.toNat, ⟨0, rfl, by omega, hst, fun j h => by omega⟩, ?_⟩
    rintro - t w1 ⟨i, rfl, hi, hst1, hno⟩
    refine condD (fun hlt => ?_) (fun hge => ?_)
    · have hil : i < L.length := by omega
      have hc4 := E.small i
      have nextN : ∀ {w'}, LSt w0 bb row w' → rdfsF L f used seen over row i = none → ∃ i' : Nat, (i : Int) + 1 = i' ∧ i' ≤ L.length ∧ LSt w0 bb row w' ∧ ∀ j, j < i' → rdfsF L f used seen over row j = none := fun hs hd =>
        ⟨i + 1, by omega, by omega, hs, fun j hj => by
          by_cases e : j = i
          · subst e; exact hd
          · exact hno j (by omega)⟩
      refine (E.sl.grow hst1.gr).rd rfl (by simpa using hil) ?_
      rw [ofN_get, gn_get]
      refine ⟨by omega, ?_⟩
      rw [iBit _ (by omega), ibit_nat]
      refine condD (fun hu1 => ?_) (fun hu0 => ?_)
      · have : used.testBit i = true := by cases h : used.testBit i with | true => rfl | false => simp [h] at hu1
        exact ⟨by unfold inR; omega, nextN hst1 (by unfold rdfsF; rw [this]; rfl), by dsimp only; omega⟩
      have hub : used.testBit i = false := by cases h : used.testBit i with | true => simp [h] at hu0 | false => rfl
      rw [and_expr hc4 hov]
      refine condP_i (fun hov1 => ?_) (fun hov0 => ?_)
      · have : ¬ gn L i &&& over = 0 := by simp only [Bool.not_eq_true', decide_eq_false_iff_not] at hov1; omega
        exact ⟨by unfold inR; omega, nextN hst1 (by unfold rdfsF; simp [this]), by dsimp only; omega⟩
      have hov2 : gn L i &&& over = 0 := by simp only [Bool.not_eq_false', decide_eq_true_eq] at hov0; omega
      have hF : rdfsF L f used seen over row i = rdfs L f (used ||| 2 ^ i) (seen ||| gn L i) (over ||| nSub seen (gn L i)) (row ++ [gn L i]) := by unfold rdfsF; rw [hub, hov2]; rfl
      obtain ⟨rv1, hb1, ho1⟩ := hst1.row
      refine ⟨rv1, hb1.cell, fun w2 hw2 => ?_⟩
      have g2 := alloc_grow hw2
      refine pappI hw2 ho1 (by have := hst1.sz; omega) (by simp; omega) ?_
      intro v' w3 ho3 hf3
      have hb3 : Box w3 (bb + 1) rv1 := (hb1.grow g2).fr hf3 fun e => by have := (ho1.lt e.symm).1; omega
      refine ⟨ho3.one, ⟨_, hb3.cell⟩, hb3.free, fun w4 hw4 => ?_⟩
      have f4 := set_fr hw4
      have hb4 := hb3.set hw4
      have ho4 : OwnI w4 (bb + 3) v' (ofN (row ++ [gn L i])) := by
        rw [ofN_app]
        exact Own.fr ho3 f4 fun k hk e => by
          have := (Own.lt ho3 hk).1
          have : k = bb + 1 := e
          omega
      have f14 : Fr (fun k => k = bb + 1 ∨ some k = rv1.ownBlock) w1 w4 := ((Fr.of_grow g2).trans (hf3.mono fun k _ h => .inr h)).trans (f4.mono fun k _ h => .inl h)
      have hst4 : LSt w0 bb (row ++ [gn L i]) w4 := hst1.fr E.size f14 (fun k hk => by
        rcases hk with h | h
        · exact .inl h
        · exact .inr (ho1.lt h.symm).1) ⟨v', hb4, ho4⟩
      intro m
      have hst5 := hst4.grow E.size ((Grow.refl w4).dr m)
      have a1 : iOr .i64 (used : Int) (iShl .i64 1 (i : Int)) = ((used ||| 2 ^ i : Nat) : Int) := by rw [iShl_one (by omega), iOr_nat (by omega) (p2 (by omega))]
      have a2 : iOr .i64 (seen : Int) ((gn L i : Nat) : Int) = ((seen ||| gn L i : Nat) : Int) := iOr_nat (by omega) (by omega)
      have a3 : iAndNot .i64 (seen : Int) ((gn L i : Nat) : Int) = ((nSub seen (gn L i) : Nat) : Int) := iAndNot_nat (by omega) (by omega)
      have l3 : nSub seen (gn L i) < 4096 := nSub_lt (n := 12) hse
      have a4 : iOr .i64 (over : Int) ((nSub seen (gn L i) : Nat) : Int) = ((over ||| nSub seen (gn L i) : Nat) : Int) := iOr_nat (by omega) (by omega)
      rw [a1, a2, a3, a4]
      have l1 : used ||| 2 ^ i < 4096 := Nat.or_lt_two_pow (n := 12) hu (Nat.pow_lt_pow_right (by omega) (by omega))
      have l2 : seen ||| gn L i < 4096 := Nat.or_lt_two_pow (n := 12) hse hc4
      have l4 : over ||| nSub seen (gn L i) < 4096 := Nat.or_lt_two_pow (n := 12) hov l3
      refine ⟨by omega, _, hst5.ct, _, _, _, rfl, rfl, ?_⟩
      refine (lineC E f _ _ _ (row ++ [gn L i]) _ hst5 (by simp; omega) l1 l2 l4).mono ?_
      rintro e w6 ⟨b, res, rfl, hst6, g6, htrue, hfalse⟩
      refine ⟨b, rfl, condP_i (fun hb6 => ?_) (fun hb6 => ?_)⟩
      · refine ⟨true, res, rfl, hst6, g6, fun _ => ?_, fun h => by (cases h)⟩
        rw [rdfs_succ]
        exact findSome_idx (k := i) (by simpa using hil) (fun j hj hji => by rw [List.getElem_range]; exact hno j hji) (by rw [List.getElem_range, hF]; exact htrue hb6)
      · obtain ⟨hd, rfl⟩ := hfalse hb6
        obtain ⟨rv6, hbx6, ho6⟩ := hst6.row
        have hl6 : (ofN (row ++ [gn L i])).length = row.length + 1 := by simp
        obtain ⟨g, cap, rfl, hBg, hcap⟩ := own_some ho6 (by simp)
        rw [hl6] at hcap
        have hval : (Value.slice (if cap = 0 then some (⟨g, 0, none⟩ : Addr) else Option.map (fun x => x.add (0 * 1)) (some (⟨g, 0, none⟩ : Addr))) (row.length - 0) (cap - 0)) = .slice (some ⟨g, 0, none⟩) row.length cap := by
          have : (⟨g, 0, none⟩ : Addr).add 0 = ⟨g, 0, none⟩ := by unfold Addr.add; simp
          simp [this]
        have hle6 := ho6.slI.len_le
        refine ⟨_, hbx6.cell, _, hbx6.cell, _, _, _, rfl, ?_⟩
        rw [hl6]
        have hm1 : ((row.length + 1 : Nat) : Int) - 1 = ((row.length : Nat) : Int) := by omega
        rw [hm1]
        refine ⟨by unfold inR; omega, _, _, _, rfl, 0, row.length, cap, ⟨rfl, rfl, rfl, by simp, by omega, by omega, Nat.le_refl _⟩, ?_⟩
        rw [hval]
        refine ⟨⟨rfl, rfl⟩, ⟨_, hbx6.cell⟩, hbx6.free, fun w7 hw7 => ?_⟩
        have f7 := set_fr hw7
        have ho7 : OwnI w7 (bb + 3) (.slice (some ⟨g, 0, none⟩) row.length cap) (ofN row) := by
          have h1 : OwnI w6 (bb + 3) (.slice (some ⟨g, 0, none⟩) row.length cap) (ofN row) := by
            have h2 := ho6
            rw [ofN_app] at h2
            unfold OwnI at h2 ⊢
            have e1 : (ofN row ++ ofN [gn L i]).length = row.length + 1 := by simp
            have e2 : (ofN row ++ ofN [gn L i]).map encI = (ofN row).map encI ++ [encI ((gn L i : Nat) : Int)] := by simp [ofN]
            rw [e1, e2] at h2
            rw [ofN_len]
            exact Own.cut h2
          exact Own.fr h1 f7 fun k hk e => by
            have := (Own.lt h1 hk).1
            have : k = bb + 1 := e
            omega
        have hst7 : LSt w0 bb row w7 := hst6.fr E.size f7 (fun k hk => .inl hk) ⟨_, hbx6.set hw7, ho7⟩
        exact ⟨by unfold inR; omega, nextN hst7 (by rw [hF, hd]), by dsimp only; omega⟩
    · have hiL : i = L.length := by omega
      subst hiL
      refine ⟨false, row, rfl, hst1, hst1.gr, fun h => by (cases h), fun _ => ⟨?_, rfl⟩⟩
      rw [rdfs_succ, List.findSome?_eq_none_iff]
      exact fun x hx => hno x (by simpa using hx)
/-- lined: the cliques in a row, if they can be put so. -/
theorem lined_c {w : World} {v : Value} {N : List Nat} (hs : SlI w v (ofN N)) (hN : VN N) (hT : Tab w) (ho : (ordG N).isSome = true) : Calls Tryd.prog 79 #[v] w fun e w' => ∃ u, e = .returned u ∧ SlI w' u (ofN (rowOf N)) ∧ Grow w w' := by
  refine f79_calls _ ?_
  have h12 := hN.le
  have hp := hN.pow
  have hfew := mcl_few hN ho
  refine (cliques_c hs hN hT).mono ?_
  rintro e w1 ⟨lv, rfl, hl, g1⟩
  refine ⟨lv, rfl, fun w2 hw2 => ?_⟩
  have g2 := alloc_grow hw2
  have s2 := alloc_size hw2
  have hb2 := Box.new hw2
  refine ⟨hl.one, ⟨_, hb2.cell⟩, hb2.free, fun w3 hw3 w4 hw4 w5 hw5 => ?_⟩
  have hb3 := hb2.set hw3
  have f3 := set_fr hw3
  have s3 : w3.heap.size = w2.heap.size := by subst hw3; simp
  have g13 : Grow w1 w3 := g2.fr f3 fun i hi e => absurd (show i = w1.heap.size from e) (by omega)
  have g4 := alloc_grow hw4
  have s4 := alloc_size hw4
  have hb4 := Box.new hw4
  have g5 := alloc_grow hw5
  have s5 := alloc_size hw5
  have hb5 := Box.new hw5
  refine ⟨⟨rfl, rfl⟩, ⟨_, hb5.cell⟩, hb5.free, fun w6 hw6 => ?_⟩
  have hb6 := hb5.set hw6
  have f6 := set_fr hw6
  have e3 : w3.heap.size = w1.heap.size + 1 := by omega
  have e4 : w4.heap.size = w1.heap.size + 2 := by omega
  have g36 : Grow w3 w6 := (g4.trans g5).fr f6 fun i hi e => by
    have : i = w4.heap.size := e
    omega
  have E : LEnv w3 w1.heap.size lv (mcl N) := ⟨e3, hb3.cell, (hl.grow g13).slI, by omega, fun i => by
    by_cases hi : i < (mcl N).length
    · rw [← gn_get hi]
      have := (mem_mcl.1 (List.getElem_mem hi)).1
      omega
    · simp [gn, hi]⟩
  have hst : LSt w3 w1.heap.size [] w6 := by
    refine ⟨g36, ?_, by have := f6.size; omega, .slice none 0 0, ?_, Own.nil _ _ _ _⟩
    · have := hb6.cell
      rw [e4, e3] at this
      exact this
    · have := (hb4.grow g5).fr f6 fun e => by
        have : w3.heap.size = w4.heap.size := e
        omega
      rwa [e3] at this
  have hcall := lineC E (mcl N).length 0 0 0 [] w6 hst (by simp) (by omega) (by omega) (by omega)
  refine ⟨_, hb6.cell, _, _, _, rfl, rfl, ?_⟩
  rw [e4, e3]
  refine hcall.mono ?_
  rintro e w7 ⟨b, res, rfl, hst7, g7, htrue, hfalse⟩
  have g07 := (g1.trans g13).trans g7
  refine ⟨b, rfl, condP_i (fun hb => ?_) (fun hb => ?_)⟩
  · have hb : b = false := by simpa using hb
    have : rowOf N = [] := by unfold rowOf; rw [(hfalse hb).1]; rfl
    rw [this]
    exact ⟨_, rfl, SlI.nil _, g07⟩
  · have hb : b = true := by simpa using hb
    have : rowOf N = res := by unfold rowOf; rw [htrue hb]; rfl
    rw [this]
    obtain ⟨rv, hbx, hor⟩ := hst7.row
    exact ⟨rv, hbx.cell, rv, rfl, hor.slI, g07⟩
end Go.Proofs.YtmpjanpmkmlloaaDoor
