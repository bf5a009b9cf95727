/- The statement RepairEither, as a contract. The table of bits is laid (Tab). -/
import Derived.Test.YtmjpnfapjcfejaaDoorRn
import Derived.Test.YtmjpnfapjcfejaaDoorRj
import Derived.Test.YtmjpnfapjcfejaaDoorRu
import Derived.Test.YtmjpnfapjcfejaaDoorGeither
namespace Go.Proofs.YtmjpnfapjcfejaaDoor
open Go Go.RowKit VC
set_option linter.unusedSimpArgs false
set_option linter.unusedVariables false

theorem bitE {s i : Nat} (h : i < 63) : (iAnd .i64 (iShr .i64 (s : Int) (i : Int)) 1 = 1) ↔ s.testBit i = true := by
  rw [iBit _ (by omega), ibit_nat]
  cases s.testBit i <;> simp
theorem slX_frC {α : Type} {k : Nat} {rep : List Value → α → Prop} {S : Nat → Prop} {w w' : World} {v : Value} {xs : List α} (h : SlX k (fun _ => rep) w v xs) (hf : Fr S w w') (hv : ∀ q, v.ownBlock = some q → ¬ S q) : SlX k (fun _ => rep) w' v xs := by
  obtain ⟨a, c, rfl, h1, h2, h3, h4⟩ := h.ex
  exact ⟨a, c, rfl, h1, h2, h3, fun i hi => by
    obtain ⟨b, cs, e1, e2, e3, e4⟩ := h4 i hi
    refine ⟨b, cs, e1, e2, fun t u ht => hf.cell (e3 t u ht) ?_, e4⟩
    rw [add_block]
    exact hv _ (by rw [e1]; rfl)⟩
theorem slX_mapR {α : Type} {k : Nat} {rep rep' : World → List Value → α → Prop} {w : World} {v : Value} {xs : List α} (h : SlX k rep w v xs) (hr : ∀ cs x, rep w cs x → rep' w cs x) : SlX k rep' w v xs := by
  obtain ⟨a, c, rfl, h1, h2, h3, h4⟩ := h.ex
  exact ⟨a, c, rfl, h1, h2, h3, fun i hi => by
    obtain ⟨b, cs, e1, e2, e3, e4⟩ := h4 i hi
    exact ⟨b, cs, e1, e2, e3, hr _ _ e4⟩⟩
def metC (kl : Int → Nat) (L : List Atm) (m k j : Nat) : Nat := ((List.range k).filter fun i => m.testBit i && decide (blkN kl L i = j)).length
theorem metC_succ (kl : Int → Nat) (L : List Atm) (m k j : Nat) : metC kl L m (k + 1) j = metC kl L m k j + (if m.testBit k = true ∧ blkN kl L k = j then 1 else 0) := by
  unfold metC
  rw [List.range_succ, List.filter_append, List.length_append, List.filter_cons]
  by_cases h1 : m.testBit k = true <;> by_cases h2 : blkN kl L k = j <;> simp [h1, h2]
theorem metC_le (kl : Int → Nat) (L : List Atm) (m k j : Nat) : metC kl L m k j ≤ k := by
  have := List.length_filter_le (fun i => m.testBit i && decide (blkN kl L i = j)) (List.range k)
  rwa [List.length_range] at this
theorem metC_one {kl : Int → Nat} {L : List Atm} {m i : Nat} (h : repB kl L m = true) (hi : i < L.length) (hb : blkN kl L i = i) : metC kl L m L.length i = 1 := by
  unfold repB at h
  have := of_decide_eq_true (List.all_eq_true.1 h i (List.mem_range.2 hi))
  unfold inBlk at this
  unfold metC
  rw [← this]
  congr 1
  refine List.filter_congr fun j hj => ?_
  congr 1
  rw [Bool.eq_iff_iff, decide_eq_true_eq, sameB_iff, ← blk_eq hi (List.mem_range.1 hj), hb]
  exact ⟨Eq.symm, Eq.symm⟩
theorem cert_share (s : List Int) (b L : List Atm) : certB s b L = decide ((shareN s b L : Int) = ((allR (klS s) L).length : Int)) := by
  unfold certB shareN
  rw [Bool.eq_iff_iff, List.all_eq_true, decide_eq_true_eq]
  constructor
  · intro h
    rw [List.filter_eq_self.2 h]
  · intro h m hm
    have := List.filter_eq_self.1 (List.Sublist.eq_of_length (List.filter_sublist ..) (by omega : ((allR (klS s) L).filter fun m => decide (cntM b L m ≠ 0)).length = (allR (klS s) L).length)) m hm
    exact this
theorem shareN_le (s : List Int) (b L : List Atm) : shareN s b L ≤ (allR (klS s) L).length := List.length_filter_le _ _
theorem ofM_takeE (L : List Atm) (m k : Nat) : (((List.range (k + 1)).filter m.testBit).map (fa L)) = ((List.range k).filter m.testBit).map (fa L) ++ (if m.testBit k then [fa L k] else []) := by
  rw [List.range_succ, List.filter_append, List.map_append, List.filter_cons]
  congr 1
  cases m.testBit k <;> simp
theorem repairEither_c {w : World} {sv fv hv bv : Value} {s h : List Int} {b L : List Atm} (hs : SlI w sv s) (hl : SlA w fv L) (hh : SlI w hv h) (hb : SlA w bv b) (hT : Tab w) :
    Calls Tryd.prog 5 #[sv, fv, .agg #[hv, bv]] w (Ret w (.bool true)) := by
  refine f5_calls _ _ _ ⟨_, rfl, fun w1 hw1 => ?_⟩
  have g1 := alloc_grow hw1
  have hQ := RecV.new hw1
  refine argsG (hs.grow g1) (hl.gr g1) (hh.grow g1) (hb.gr g1) (fun g => (hQ.grow g).all) fun s1 f1 h1 b1 w11 o1 o2 o3 o4 g11 => (certain_c o1 o2 o3 o4 (hT.grow (g1.trans g11))).mono ?_
  rw [askE_tr']
  rintro e w14 ⟨rfl, g14⟩
  have g114 := g11.trans g14
  have g014 := g1.trans g114
  refine ⟨_, _, rfl, g14, argsG (hs.grow g014) (hl.gr g014) (hh.grow g014) (hb.gr g014) (fun g => (hQ.grow (g114.trans g)).all) fun s2 f2 h2 b2 w26 p1 p2 p3 p4 g26 => (counter_c p1 p2 p3 p4 (hT.grow (g014.trans g26))).mono ?_⟩
  rw [askE_tr']
  rintro e w29 ⟨rfl, g29⟩
  have g129 := (g114.trans g26).trans g29
  have g029 := g1.trans g129
  refine ⟨_, _, rfl, g29, argsG (hs.grow g029) (hl.gr g029) (hh.grow g029) (hb.gr g029) (fun g => (hQ.grow (g129.trans g)).all) fun s3 f3 h3 b3 w41 q1 q2 q3 q4 g41 => (share_c q1 q2 q3 q4 (hT.grow (g029.trans g41))).mono ?_⟩
  rw [askE_tr']
  rintro e w44 ⟨rfl, g44⟩
  have g144 := (g129.trans g41).trans g44
  have g044 := g1.trans g144
  refine ⟨_, _, _, rfl, g44, (few7_c (hs.grow g044)).mono ?_⟩
  rintro e w49 ⟨s4, rfl, r1, g49⟩
  refine ⟨_, rfl, (factsS_c (hl.gr (g044.trans g49))).mono ?_⟩
  rintro e w52 ⟨f4, rfl, r2, g52⟩
  refine ⟨_, rfl, (blocks_c (SlI.grow (Own.slI r1) g52) r2).mono ?_⟩
  rw [okR_tr]
  rintro e w55 ⟨lv, rfl, hlv, g55⟩
  have g155 := ((g144.trans g49).trans g52).trans g55
  have g055 := g1.trans g155
  have fin : ∀ {E : World} {K : Bool → World → Prop}, Grow w E → (∀ w', Grow w w' → K true w') → Calls Tryd.prog 13 #[] E fun e w' => ∃ t : Bool, e = .returned (Value.bool t) ∧ K t w' := fun gE hk => awake7_c.mono (by
    rintro e w23 ⟨rfl, g23⟩
    exact ⟨_, rfl, hk _ (gE.trans g23)⟩)
  refine ⟨_, _, rfl, condP_i (fun hne => ?_) fun heq => ?_⟩
  · have hne : ¬ askE true s h b L = 0 := by simpa using hne
    rw [if_neg hne]
    refine cT (decide_eq_true rfl) (cT (decide_eq_true rfl) ?_)
    rcases askE_cases' true s h b L with h3 | h3 | h3
    · exact absurd h3 hne
    · exact cT (decide_eq_true h3) (fin g055 fun w' g => ⟨rfl, g⟩)
    · exact cF (decide_eq_false (by omega)) (cT (decide_eq_true h3) (fin g055 fun w' g => ⟨rfl, g⟩))
  have h0 : askE true s h b L = 0 := by simpa using heq
  obtain ⟨hR, hO, hq, e1, e2, e3, e4, _⟩ := askE_ok' h0
  rw [if_pos h0, if_pos h0, if_pos h0, if_pos h0, e1, e3, e4, h0, if_pos hR]
  rw [if_pos hR, e1, e4] at hlv
  have hbc : (decide ((0 : Int) = 0) && certB s b L) = certB s b L := by rw [decide_eq_true rfl, Bool.true_and]
  rw [hbc]
  have h12 := (okR_out hR).2.1
  refine cF rfl (cF rfl (cF (by rw [cert_share]; simp) (cF ?_ (cF (decide_eq_false (by omega)) (cF (decide_eq_false (by have := shareN_le s b L; omega)) ?_)))))
  · rw [cert_cntrE]
    cases cntrO s b L <;> rfl
  refine condP_i (fun hc => fin g055 fun w' g => ⟨rfl, g⟩) fun hc => ?_
  rw [cert_cntrE] at hc
  cases hm0 : cntrO s b L with
  | none => rw [hm0] at hc; cases hc
  | some m =>
  have hmem : m ∈ allR (klS s) L := List.mem_of_find?_eq_some hm0
  have hz : cntM b L m = 0 := by simpa using List.find?_some hm0
  obtain ⟨hml, hrep⟩ := mem_allR.1 hmem
  refine hlv.ln ?_
  rw [blksL_len]
  obtain ⟨n, hn⟩ : ∃ n, n = L.length := ⟨_, rfl⟩
  rw [← hn] at h12 hml ⊢
  refine ⟨⟨by omega, by omega, by omega, by omega⟩, fun w77 hw77 => ?_⟩
  rw [Int.toNat_natCast] at hw77 ⊢
  have g77 := alloc_grow hw77
  have s77 := alloc_size hw77
  obtain ⟨A, hA⟩ : ∃ A, A = w55.heap.size := ⟨_, rfl⟩
  have hmade : Own w77 A 3 1 (.slice (some ⟨A, 0, none⟩) n n) n ((List.replicate n (0 : Int)).map encI) := by
    have := Own.made hw77 (n := n) (by omega) (Nat.le_refl _) (by omega)
    rw [hA]
    have e : (List.replicate n (0 : Int)).map encI = List.replicate n (Value.int .i64 0) := by simp [encI]
    rw [e]
    exact this
  rw [← hA]
  refine (facts_c (hl.gr (g055.trans g77))).mono ?_
  rintro e w78 ⟨f5, rfl, r3, g78⟩
  rw [e4] at r3
  have g078 := (g055.trans g77).trans g78
  have s78 := g78.size
  -- the facts, as they read whatever becomes of the counters
  have hFx : SlX 2 (fun _ (cs : List Value) (a : Atm) => ∀ w2, Fr (fun q => q = A ∨ w78.heap.size ≤ q) w78 w2 → repA w2 cs a) w78 f5 L := by
    obtain ⟨ps, hps, hel, hown⟩ := r3.ex
    rw [← hps]
    refine SlX.of_cells (fun p hp => ⟨(hel p hp).len, fun w2 hf => (hel p hp).rep w2 (hf.mono fun q hq e => ?_)⟩) ?_
    · rcases e with e | e
      · refine .inl ?_
        show q < w77.heap.size
        omega
      · omega
    · have := Own.slC hown
      rw [← hps, List.length_map] at this
      exact this
  have hFb : ∀ q, f5.ownBlock = some q → w77.heap.size ≤ q ∧ q < w78.heap.size := fun q hq => r3.lt hq
  have hF78 : SlA w78 f5 L := OwnX.slX r3
  refine ⟨_, rfl, SlX.ln hF78 ?_⟩
  rw [← hn]
  refine ⟨fun sm t w' => ∃ (k : Nat) (c : List Int), t = k ∧ k ≤ n ∧ c.length = n ∧ (∀ j, j < n → c.getD j 0 = (metC (klS s) L m k j : Int)) ∧ Own w' A 3 1 (.slice (some ⟨A, 0, none⟩) n n) n (c.map encI) ∧ OwnX (fun _ => True) 2 (fun _ (cs : List Value) (a : Atm) => ∀ w2, Fr (fun q => q = A ∨ w78.heap.size ≤ q) w78 w2 → repA w2 cs a) w' w78.heap.size 57 sm (((List.range k).filter m.testBit).map (fa L)) ∧ Fr (fun q => q = A ∨ w78.heap.size ≤ q) w78 w',
    fun _ t _ => n - t.toNat, ⟨0, List.replicate n 0, rfl, by omega, by simp, fun j hj => ?_, Own.grow hmade g78, OwnX.nil _ _ _, Fr.refl _ _⟩, ?_⟩
  · simp [metC, List.getD, hj]
  rintro - sm t w89 ⟨k, c, rfl, hk, hcl, hcv, hMet, hsm, hf89⟩
  have hs89 := hf89.size
  have gB : ∀ {w'}, Fr (fun q => q = A ∨ w78.heap.size ≤ q) w78 w' → Grow w55 w' := fun hf => (g77.trans g78).fr hf fun i hi e => by omega
  have g5589 := gB hf89
  have hget : ∀ i (hi : i < n), (blksL s L)[i]'(by rw [blksL_len]; omega) = (blkN (klS s) L i : Int) := fun i hi => blksL_get _
  refine condD (fun hlt => ?_) fun hge => ?_
  · have hkn : k < n := by omega
    have hkl : k < L.length := by omega
    have hFx89 := slX_frC hFx hf89 fun q hq e => by have := hFb q hq; omega
    refine SlX.rd hFx89 rfl hkl fun cs hcs hrep2 => ?_
    obtain ⟨u, hu0, -⟩ := hrep2 w78 (Fr.refl _ _)
    subst hu0
    have hone : ∀ y ∈ [Value.int .i64 (L[k]).1, u], y.oneCell' = true := by
      obtain ⟨u', hu', hs'⟩ := hrep2 w78 (Fr.refl _ _)
      have hu2 := hs'.one.2
      simp only [List.cons.injEq, and_true, true_and] at hu'
      rw [← hu'] at hu2
      intro y hy
      simp at hy
      rcases hy with rfl | rfl
      · rfl
      · exact hu2
    intro w94 hw94
    refine RecV.init (cs := [.int .i64 (L[k]).1, u]) hw94 rfl hone fun w95 g95 s95 hc => ⟨by omega, condD (fun hb => ?_) fun hb => ?_⟩
    · have hb : m.testBit k = true := (bitE (by omega)).1 hb
      have s8995 := g95.size
      have hfl := List.length_filter_le m.testBit (List.range k)
      rw [List.length_range] at hfl
      refine ⟨[_, _], rfl, hc.all, bs1 el_fact (by omega) (by omega) (cs := #[.int .i64 (L[k]).1, u]) rfl w95 fun w98 hw98 => ?_⟩
      refine pappX1 el_fact (by omega) (cs := [.int .i64 (L[k]).1, u]) (y := L[k]) (hsm.grow g95) hw98 ⟨rfl, hone, fun w2 _ => hrep2⟩ (by omega) (by rw [List.length_map]; omega) (by omega) ?_
      intro v2 w101 ho2 hf2 _ _
      have g98 := alloc_grow hw98
      have hf101 : Fr (fun q => q = A ∨ w78.heap.size ≤ q) w78 w101 := (hf89.trans (Fr.of_grow (g95.trans g98))).trans (hf2.mono fun q _ e => .inr (hsm.lt e.symm).1)
      have g55101 := gB hf101
      have hMet101 : Own w101 A 3 1 (.slice (some ⟨A, 0, none⟩) n n) n (c.map encI) := Own.fr (Own.grow hMet (g95.trans g98)) hf2 fun q hq e => by
        have h1 := (hsm.lt e.symm).1
        have h2 := (Own.lt hMet hq).2
        simp [Value.ownBlock] at hq
        omega
      have hbn := blk_lt (kl := klS s) hkl
      refine (hlv.grow g55101).rd rfl (by rw [blksL_len]; exact hkl) ?_
      rw [hget k hkn]
      have hslc : SlI w101 (.slice (some ⟨A, 0, none⟩) n n) c := by
        have := Own.slC hMet101
        unfold SlI
        rw [hcl]
        exact this
      have hbc' : blkN (klS s) L k < c.length := by omega
      refine hslc.rd rfl hbc' ?_
      have hcb : c[blkN (klS s) L k] = (metC (klS s) L m k (blkN (klS s) L k) : Int) := by
        have := hcv (blkN (klS s) L k) (by omega)
        simpa [List.getD, hbc'] using this
      rw [hcb]
      have hmle := metC_le (klS s) L m k (blkN (klS s) L k)
      have aX : Addr.add ⟨A, 0, none⟩ (Int.toNat (blkN (klS s) L k : Int) * 1) = ⟨A, blkN (klS s) L k, none⟩ := by rw [Int.toNat_natCast, Nat.mul_one, Addr.add0]
      refine ⟨by unfold inR; omega, _, _, _, rfl, ⟨by omega, by omega⟩, ?_⟩
      rw [aX]
      have hbn2 : blkN (klS s) L k < n := by omega
      refine ⟨(Own.wr hMet101 hbn2).1, (Own.wr hMet101 hbn2).2, fun w113 hw113 => ⟨by unfold inR; omega, ⟨k + 1, c.set (blkN (klS s) L k) ((metC (klS s) L m k (blkN (klS s) L k) : Int) + 1), by omega, by omega, by simpa using hcl, fun j hj => ?_, ?_, ?_, hf101.trans ((set_fr hw113).mono fun q _ e => .inl e)⟩, by dsimp only; omega⟩⟩
      · rw [metC_succ, getD_setE]
        by_cases e : j = blkN (klS s) L k
        · subst e
          rw [if_pos ⟨rfl, by omega⟩, if_pos ⟨hb, rfl⟩]
          omega
        · rw [if_neg (fun h => e h.1), if_neg (fun h => e h.2.symm), hcv j hj]
          omega
      · have := Own.set hMet101 hbn2 hw113
        rw [List.map_set]
        exact this
      · rw [ofM_takeE, hb, if_pos rfl, fa_get hkl]
        exact OwnX.fr ho2 (set_fr hw113) (fun _ _ => trivial) fun q hq e => by
          have h1 := (ho2.lt hq).1
          have e : q = A := e
          omega
    · have hb : m.testBit k = false := by
        rw [← Bool.not_eq_true]
        exact fun h => hb ((bitE (by omega)).2 h)
      refine ⟨by unfold inR; omega, ⟨k + 1, c, by omega, by omega, hcl, fun j hj => ?_, Own.grow hMet g95, ?_, hf89.trans (Fr.of_grow g95)⟩, by dsimp only; omega⟩
      · rw [metC_succ, if_neg (by rw [hb]; simp), hcv j hj]
        omega
      · rw [ofM_takeE, hb, if_neg (by decide), List.append_nil]
        exact hsm.grow g95
  · have hkn : k = n := by omega
    subst hkn
    have hlv89 := hlv.grow g5589
    refine hlv89.ln ?_
    rw [blksL_len, ← hn]
    have hslc : SlI w89 (.slice (some ⟨A, 0, none⟩) k k) c := by
      have := Own.slC hMet
      unfold SlI
      rw [hcl]
      exact this
    refine ⟨fun t w' => ∃ i : Nat, t = i ∧ i ≤ k ∧ w' = w89, fun t _ => k - t.toNat, ⟨0, rfl, by omega, rfl⟩, ?_⟩
    rintro - t w121 ⟨i, rfl, hi, rfl⟩
    refine condD (fun hlt2 => ?_) fun hge2 => ?_
    · have hik : i < k := by omega
      refine hlv89.rd rfl (by rw [blksL_len]; omega) ?_
      rw [hget i hik]
      refine condD (fun he => hslc.rd rfl (by omega) ?_) fun hne => ⟨by unfold inR; omega, ⟨i + 1, by omega, by omega, rfl⟩, by dsimp only; omega⟩
      have hci : c[i]'(by omega) = (metC (klS s) L m k i : Int) := by
        have := hcv i hik
        simpa [List.getD, (by omega : i < c.length)] using this
      have h1 : metC (klS s) L m k i = 1 := by
        rw [hn]
        exact metC_one hrep (by omega) (by omega)
      rw [hci, h1]
      exact cF rfl ⟨by unfold inR; omega, ⟨i + 1, by omega, by omega, rfl⟩, by dsimp only; omega⟩
    · have hik : i = k := by omega
      subst hik
      have g089 := g055.trans g5589
      refine ⟨[_, _], rfl, (hQ.grow (g155.trans g5589)).all, (ofS_c (hh.grow g089) (hb.gr g089)).mono ?_⟩
      rintro e w131 ⟨h6, b6, rfl, t1, t2, g131⟩
      rw [e2] at t1
      rw [e3] at t2
      have hsmA : SlA w131 sm (ofM L m) := by
        have h8 := OwnX.slX (hsm.grow g131)
        have h9 : SlA w131 sm (((List.range i).filter m.testBit).map (fa L)) := slX_mapR h8 fun cs x hx => hx w131 (hf89.trans (Fr.of_grow g131))
        unfold ofM
        rw [← hn]
        exact h9
      refine ⟨_, rfl, (count_c t1 t2 hsmA).mono ?_⟩
      rw [askO_ofM hO]
      rintro e w134 ⟨rfl, g134⟩
      have hz' : (allM (srtF (ofM L m)) b).length = 0 := hz
      refine ⟨_, _, rfl, cT rfl (cT rfl (cT (decide_eq_true ?_) ((hlv89.grow (g131.trans g134)).ln ⟨by omega, ?_⟩)))⟩
      · dsimp only
        omega
      · rw [blksL_len, ← hn, iShl_one (by omega)]
        exact cT (decide_eq_true (by dsimp only [Option.getD]; omega)) (fin ((g089.trans g131).trans g134) fun w' g => ⟨rfl, g⟩)
end Go.Proofs.YtmjpnfapjcfejaaDoor
