/- Contracts of package chordal and of its reference: the greatest cliques. The table of bits is laid (Tab). -/
import Derived.Test.YtmpjanpmkmlloaaDoorCe
import Derived.Test.YtmpjanpmkmlloaaDoorGq
namespace Go.Proofs.YtmpjanpmkmlloaaDoor
open Go Go.RowKit VC
set_option linter.unusedSimpArgs false
set_option linter.unusedVariables false

/-- The next round's own variable of a loop whose variable is captured. -/
theorem inc {e : TypeId} {set : Addr} {w : World} {k : Int} {K : World → Prop} (hc : w.cell? set = some (.int .i64 k)) (hr : inR (k + 1)) (hk : ∀ w', Grow w w' → Box w' w.heap.size (.int .i64 (k + 1)) → K w') :
    ∃ t : Int, w.cell? set = some (.int .i64 t) ∧ ∀ wa, wa = w.alloc (.cells #[.int .i64 0] e) → (∃ old, wa.cell? ⟨w.heap.size, 0, none⟩ = some old) ∧ wa.frozen? ⟨w.heap.size, 0, none⟩ = false ∧ ∀ wb, wb = wa.setCell ⟨w.heap.size, 0, none⟩ (.int .i64 t) →
      ∃ t2 : Int, wb.cell? ⟨w.heap.size, 0, none⟩ = some (.int .i64 t2) ∧ inR (t2 + 1) ∧ (∃ old, wb.cell? ⟨w.heap.size, 0, none⟩ = some old) ∧ wb.frozen? ⟨w.heap.size, 0, none⟩ = false ∧ ∀ wc, wc = wb.setCell ⟨w.heap.size, 0, none⟩ (.int .i64 (t2 + 1)) → K wc := by
  refine ⟨k, hc, fun wa ha => ?_⟩
  have ga := alloc_grow ha
  have ba := Box.new ha
  refine ⟨⟨_, ba.cell⟩, ba.free, fun wb hb => ?_⟩
  have bb := ba.set hb
  have fb := set_fr hb
  refine ⟨k, bb.cell, hr, ⟨_, bb.cell⟩, bb.free, fun wc hc' => ?_⟩
  have fc := set_fr hc'
  exact hk wc ((ga.fr fb fun i hi e => absurd (show i = w.heap.size from e) (by omega)).fr fc fun i hi e => absurd (show i = w.heap.size from e) (by omega)) (bb.set hc')
theorem cliques_lit_c {w : World} {b2 : Nat} {a : Addr} {g : Value} {N : List Nat} {s : Nat} (h1 : w.cell? a = some (.int .i64 (s : Int))) (h2 : w.cell? ⟨b2, 0, none⟩ = some g) (hg : SlI w g (ofN N)) (hN : VN N) (hs : s < 4096) {i : Nat} (hi : i < N.length) :
    Calls Tryd.prog 113 #[.int .i64 (i : Int), .pointer (some a), .pointer (some ⟨b2, 0, none⟩)] w (Ret w (.bool (decide (nSub s (nb N i) = 0)))) := by
  refine f113_calls _ _ _ ?_
  refine ⟨_, h1, _, h2, hg.rd rfl (by simpa using hi) fun m => ⟨?_, (Grow.refl w).dr m⟩⟩
  rw [ofN_get, nb_get, iAndNot_nat (by omega) (lt63 (hN.nb_lt' i))]
  have : decide (((nSub s (nb N i) : Nat) : Int) = 0) = decide (nSub s (nb N i) = 0) := by rw [Bool.eq_iff_iff]; simp
  rw [this]
theorem maxq_any {N : List Nat} {s : Nat} : maxq N s = (cliq N s && !((ofN (els (nSub (al N) s))).any fun x => decide (nSub s (nb N x.toNat) = 0))) := by
  unfold maxq
  congr 1
  rw [Bool.eq_iff_iff, Bool.not_eq_true', List.any_eq_false, List.all_eq_true]
  simp only [ofN, List.mem_map, forall_exists_index, and_imp, forall_apply_eq_imp_iff₂, Int.toNat_natCast]
  simp
theorem cliques_c {w : World} {v : Value} {N : List Nat} (hs : SlI w v (ofN N)) (hN : VN N) (hT : Tab w) : Calls Tryd.prog 96 #[v] w fun e w' => ∃ u, e = .returned u ∧ OwnI w' w.heap.size u (ofN (mcl N)) ∧ Grow w w' := by
  refine f96_calls _ ?_
  have h12 := hN.le
  have hp := hN.pow
  have h0 : 1 ≤ 2 ^ N.length := Nat.pow_pos (by omega)
  refine ⟨hs.one, fun w1 hw1 w2 hw2 => ?_⟩
  have g1 := alloc_grow hw1
  have g2 := alloc_grow hw2
  have s1 := alloc_size hw1
  have hb2 := Box.new hw2
  refine ⟨⟨_, hb2.cell⟩, hb2.free, fun w3 hw3 => ?_⟩
  have hb3 := hb2.set hw3
  have f3 := set_fr hw3
  have g13 : Grow w1 w3 := g2.fr f3 fun i hi e => absurd (show i = w1.heap.size from e) (by omega)
  refine ⟨fun out set w' => ∃ (k bs : Nat), set = ⟨bs, 0, none⟩ ∧ 1 ≤ k ∧ k ≤ 2 ^ N.length ∧ Box w' bs (.int .i64 (k : Int)) ∧ OwnI w' w1.heap.size out (ofN (mclT N k)) ∧ out.ownBlock ≠ some bs ∧ w1.heap.size ≤ bs ∧ Grow w1 w',
    fun _ set w' => 4097 - (match w'.cell? set with | some (.int .i64 k) => k.toNat | _ => 0), ⟨1, w1.heap.size, rfl, by omega, h0, hb3, by rw [mclT_one]; exact Own.nil _ _ _ _, by simp [Value.ownBlock], Nat.le_refl _, g13⟩, ?_⟩
  rintro - out set w4 ⟨k, bs, rfl, hk1, hk, hb, ho, hne, hbs, g4⟩
  have cg : ∀ {w'}, Grow w4 w' → w'.cell? ⟨w.heap.size, 0, none⟩ = some v := fun hg => hg.cell (g4.cell (alloc_cell0 hw1))
  have cs : ∀ {w'}, Grow w4 w' → w'.cell? ⟨bs, 0, none⟩ = some (.int .i64 (k : Int)) := fun hg => hg.cell hb.cell
  have hsl : ∀ {w'}, Grow w4 w' → SlI w' v (ofN N) := fun hg => hs.grow ((g1.trans g4).trans hg)
  have hTb : ∀ {w'}, Grow w4 w' → Tab w' := fun hg => hT.grow ((g1.trans g4).trans hg)
  refine ⟨_, hb.cell, v, cg (Grow.refl w4), _, fun w' g' => all_c (hsl g') (by simpa using h12), fun w5 g5 => ?_⟩
  rw [ofN_len]
  refine condD (fun hlt m => ?_) (fun hge => ?_)
  · have hkl : k < 2 ^ N.length := by omega
    have hk4 : k < 4096 := by omega
    have g6 := g5.dr m
    -- the next round
    have next : ∀ {w' : World} {out' : Value}, Fr (fun j => some j = out.ownBlock) w4 w' → OwnI w' w1.heap.size out' (ofN (mclT N (k + 1))) → ∀ w'', Grow w' w'' → Box w'' w'.heap.size (.int .i64 ((k : Int) + 1)) →
        (∃ (k' bs' : Nat), (⟨w'.heap.size, 0, none⟩ : Addr) = ⟨bs', 0, none⟩ ∧ 1 ≤ k' ∧ k' ≤ 2 ^ N.length ∧ Box w'' bs' (.int .i64 (k' : Int)) ∧ OwnI w'' w1.heap.size out' (ofN (mclT N k')) ∧ out'.ownBlock ≠ some bs' ∧ w1.heap.size ≤ bs' ∧ Grow w1 w'') ∧
        4097 - (match w''.cell? ⟨w'.heap.size, 0, none⟩ with | some (.int .i64 k) => k.toNat | _ => 0) < 4097 - (match w4.cell? ⟨bs, 0, none⟩ with | some (.int .i64 k) => k.toNat | _ => 0) := fun {w' out'} hf ho' w'' g'' hb'' => by
      have gw : Grow w1 w' := g4.fr hf fun i hi e => by have := (ho.lt e.symm).1; omega
      refine ⟨⟨k + 1, w'.heap.size, rfl, by omega, by omega, by simpa using hb'', ho'.grow g'', fun e => by have := (ho'.lt e).2; omega, gw.size, gw.trans g''⟩, ?_⟩
      rw [hb''.cell, hb.cell]
      simp only
      omega
    have e1 : iAndNot .i64 ((2 ^ N.length - 1 : Nat) : Int) (k : Int) = ((nSub (al N) k : Nat) : Int) := by
      have := al_lt N
      show iAndNot .i64 ((al N : Nat) : Int) (k : Int) = _
      rw [iAndNot_nat (by omega) (by omega)]
    have skip : ∀ {w' : World}, Grow w4 w' → maxq N k = false → ∀ w'', Grow w' w'' → Box w'' w'.heap.size (.int .i64 ((k : Int) + 1)) → _ := fun {w'} g' hq w'' g'' hb'' => next (out' := out) (Fr.of_grow g') (by rw [mclT_succ N hk1, hq, if_neg (by simp), List.append_nil]; exact ho.grow g') w'' g'' hb''
    -- what follows the clique
    have rest : ∀ {w6 : World}, Grow w4 w6 → Calls Tryd.prog 67 #[v, .int .i64 (k : Int)] w6 (Ret w6 (.bool (cliq N k))) := fun g => clique_c (hsl g) hN hkl (hTb g)
    have inr : inR ((k : Int) + 1) := by unfold inR; omega
    repeat' first
      | refine And.intro ?_ ?_
      | refine ⟨_, cg g6, ?_⟩
      | refine ⟨_, cs g6, ?_⟩
      | fail
    all_goals
      refine (rest g6).mono ?_
      rintro e w7 ⟨rfl, g7⟩
      have g07 := g6.trans g7
      refine ⟨_, rfl, condP_i (fun hq => ?_) (fun hq => ?_)⟩
    all_goals repeat' first
      | exact inc (cs g07) inr (skip g07 (by unfold maxq; rw [hq]; rfl))
      | refine And.intro ?_ ?_
      | refine ⟨_, cg g07, ?_⟩
      | refine ⟨_, cs g07, ?_⟩
      | fail
    all_goals
      refine (all_c (hsl g07) (by simpa using h12)).mono ?_
      rintro e w8 ⟨rfl, g8⟩
      have g08 := g07.trans g8
      refine ⟨_, rfl, ?_⟩
      try refine ⟨_, cs g08, ?_⟩
      rw [ofN_len, e1]
      refine (nodes_c (Nat.lt_of_lt_of_le (nSub_lt (al_lt N)) hp) (hTb g08)).mono ?_
      rintro e w9 ⟨n9, rfl, h9, g9⟩
      have g09 := g08.trans g9
      have hask : Asks w9 (.func (.func 113) #[] #[.pointer (some ⟨bs, 0, none⟩), .pointer (some ⟨w.heap.size, 0, none⟩)]) (ofN (els (nSub (al N) k))) (fun x => decide (nSub k (nb N x.toNat) = 0)) := by
        refine ⟨_, _, _, rfl, rfl, fun x hx w' hw' => ?_⟩
        obtain ⟨i, hi, rfl⟩ := List.mem_map.1 hx
        have hi2 := (mem_els.1 hi).2
        rw [nSub_bit, al_bit, Bool.and_eq_true, decide_eq_true_eq] at hi2
        simp only [Int.toNat_natCast]
        exact cliques_lit_c (cs (g09.trans hw')) (cg (g09.trans hw')) (hsl (g09.trans hw')) hN hk4 hi2.1
      refine ⟨n9, rfl, (containsFunc_c h9.slI hask).mono ?_⟩
      rintro e w10 ⟨rfl, g10⟩
      have g010 := g09.trans g10
      have hmq := maxq_any (N := N) (s := k)
      rw [hq, Bool.true_and] at hmq
      refine ⟨_, rfl, condP_i (fun hm => ?_) (fun hm => inc (cs g010) inr (skip g010 (by rw [hmq]; exact hm)))⟩
      rw [hm] at hmq
      refine ⟨_, cs g010, fun w11 hw11 => ?_⟩
      have ho10 := ho.grow g010
      refine pappI hw11 ho10 (by have := (g4.trans g010).size; omega) (by have := mclT_len N k; simp; omega) ?_
      intro v' w12 ho12 hf12
      have g11 := alloc_grow hw11
      have hfr : Fr (fun j => some j = out.ownBlock) w4 w12 := (Fr.of_grow (g010.trans g11)).trans hf12
      refine inc (k := (k : Int)) (hf12.cell ((g010.trans g11).cell hb.cell) fun e => hne e.symm) inr (next hfr ?_)
      rw [mclT_succ N hk1, hmq, if_pos rfl, ofN_app]
      exact ho12
  · have hkl : k = 2 ^ N.length := by omega
    subst hkl
    refine ⟨out, rfl, ?_, (g1.trans g4).trans g5⟩
    exact (ho.grow g5).mono (by omega)
theorem Cliques_no {w : World} {v : Value} {G : List Int} (hs : SlI w v G) (hv : ¬ VG G) : Calls Tryd.prog 46 #[v] w (Ret w (.tuple #[.slice none 0 0, .int .i64 2])) := by
  refine f46_calls _ ?_
  refine (valid_c hs (b := false) (by simp [hv])).mono ?_
  rintro e w1 ⟨rfl, g1⟩
  exact ⟨false, rfl, rfl, g1⟩
theorem Cliques_c {w : World} {v : Value} {N : List Nat} (hs : SlI w v (ofN N)) (hN : VN N) (hT : Tab w) : Calls Tryd.prog 46 #[v] w fun e w' => ∃ u, e = .returned (.tuple #[u, .int .i64 0]) ∧ OwnI w' w.heap.size u (ofN (mcl N)) ∧ Grow w w' := by
  refine f46_calls _ ?_
  refine (valid_c hs (b := true) (by simp [VG_ofN.2 hN])).mono ?_
  rintro e w1 ⟨rfl, g1⟩
  refine ⟨true, rfl, (cliques_c (hs.grow g1) hN (hT.grow g1)).mono ?_⟩
  rintro e w2 ⟨u, rfl, hu, g2⟩
  exact ⟨u, rfl, u, rfl, hu.mono g1.size, g1.trans g2⟩
theorem refCliques_c {w : World} {v : Value} {N : List Nat} (hs : SlI w v (ofN N)) (hN : VN N) : Calls Tryd.prog 49 #[v] w fun e w' => ∃ u, e = .returned u ∧ OwnI w' w.heap.size u (ofN (mcl N)) ∧ Grow w w' := by
  refine f49_calls _ ?_
  have h12 := hN.le
  have hp := hN.pow
  have h0 : 1 ≤ 2 ^ N.length := Nat.pow_pos (by omega)
  refine ⟨fun out t w' => ∃ k : Nat, t = k ∧ 1 ≤ k ∧ k ≤ 2 ^ N.length ∧ OwnI w' w.heap.size out (ofN (mclT N k)) ∧ Grow w w', fun _ t _ => 4097 - t.toNat, ⟨1, rfl, by omega, h0, by rw [mclT_one]; exact Own.nil _ _ _ _, Grow.refl w⟩, ?_⟩
  rintro - out t w1 ⟨k, rfl, hk1, hk, ho, g1⟩
  refine (hs.grow g1).ln ?_
  rw [ofN_len, iShl_one (by omega)]
  refine ⟨by omega, condD (fun hlt => ?_) (fun hge => ?_)⟩
  · have hkl : k < 2 ^ N.length := by omega
    refine (isClique_c (hs.grow g1) hN hkl).mono ?_
    rintro e w2 ⟨rfl, g2⟩
    have g02 := g1.trans g2
    refine ⟨_, rfl, (hs.grow g02).ln ?_⟩
    rw [ofN_len]
    refine ⟨fun b t w' => ∃ i : Nat, t = i ∧ i ≤ N.length ∧ b = (cliq N k && (List.range i).all fun i => k.testBit i || !cliq N (k ||| 2 ^ i)) ∧ Grow w2 w', fun _ t _ => N.length - t.toNat, ⟨0, rfl, by omega, by simp, Grow.refl w2⟩, ?_⟩
    rintro - b t w3 ⟨i, rfl, hi, rfl, g3⟩
    have g03 := g02.trans g3
    refine condD (fun hlt2 => ⟨by omega, ?_⟩) (fun hge2 => ?_)
    · have hil : i < N.length := by omega
      rw [iBit _ (by omega), ibit_nat]
      refine condD (fun hb => ⟨by omega, ?_⟩) (fun hb => ?_)
      · have hbit : k.testBit i = false := by cases h : k.testBit i with | true => simp [h] at hb | false => rfl
        rw [iShl_one (by omega), iOr_nat (by omega) (p2 (by omega))]
        refine (isClique_c (hs.grow g03) hN (Nat.or_lt_two_pow hkl (Nat.pow_lt_pow_right (by omega) hil))).mono ?_
        rintro e w4 ⟨rfl, g4⟩
        refine ⟨_, rfl, condP_i (fun hq => ?_) (fun hq => ?_)⟩
        · exact ⟨by unfold inR; omega, ⟨i + 1, by omega, by omega, by rw [List.range_succ, List.all_append]; simp [hbit, hq], g3.trans g4⟩, by dsimp only; omega⟩
        · exact ⟨by unfold inR; omega, ⟨i + 1, by omega, by omega, by rw [List.range_succ, List.all_append]; simp [hbit, hq], g3.trans g4⟩, by dsimp only; omega⟩
      · have hbit : k.testBit i = true := by cases h : k.testBit i with | true => rfl | false => simp [h] at hb
        exact ⟨by unfold inR; omega, ⟨i + 1, by omega, by omega, by rw [List.range_succ, List.all_append]; simp [hbit], g3⟩, by dsimp only; omega⟩
    · have hil : i = N.length := by omega
      subst hil
      rw [← maxq_ref hN hkl]
      refine condP_i (fun hq => ?_) (fun hq => ?_)
      · intro w4 hw4
        refine pappI hw4 (ho.grow (g2.trans g3)) (by have := g03.size; omega) (by have := mclT_len N k; simp; omega) ?_
        intro v' w5 ho5 hf5
        refine ⟨by unfold inR; omega, ⟨k + 1, by omega, by omega, by omega, ?_, own_grow g03 (ho.grow (g2.trans g3)) (Nat.le_refl _) hw4 hf5⟩, by dsimp only; omega⟩
        rw [mclT_succ N hk1, hq, if_pos rfl, ofN_app]
        exact ho5
      · refine ⟨by unfold inR; omega, ⟨k + 1, by omega, by omega, by omega, ?_, g03⟩, by dsimp only; omega⟩
        rw [mclT_succ N hk1, hq, if_neg (by simp), List.append_nil]
        exact ho.grow (g2.trans g3)
  · have hkl : k = 2 ^ N.length := by omega
    subst hkl
    exact ⟨out, rfl, ho, g1⟩
end Go.Proofs.YtmpjanpmkmlloaaDoor
