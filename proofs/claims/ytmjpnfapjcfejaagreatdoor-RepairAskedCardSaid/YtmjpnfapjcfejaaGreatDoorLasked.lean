/- The statement RepairAsked, as a contract. The table of bits is laid (Tab). -/
import Derived.Test.YtmjpnfapjcfejaaGreatDoorRo
import Derived.Test.YtmjpnfapjcfejaaGreatDoorTr
import Derived.Test.YtmjpnfapjcfejaaGreatDoorGasked
namespace Go.Proofs.YtmjpnfapjcfejaaGreatDoor
open Go Go.RowKit VC
set_option linter.unusedSimpArgs false
set_option linter.unusedVariables false

theorem asked_fin {s h m : List Int} {b L : List Atm} (h0 : askE false s h b L = 0) (hM : HeadM h m) (hm : Nine m) :
    (askE true s [] (subB m b) L = 0 ∨ askE true s [] (subB m b) L = 3) ∧ certB s (subB m b) L = decide ((h.map fun x => m.getD x.toNat 0) ∈ sureR s h b L) := by
  obtain ⟨hR, hO, hq, -⟩ := askE_ok h0
  have hFs := (okR_out hR).2.2.1
  constructor
  · have e : askE true s [] (subB m b) L = (askO [] (subB m b) L).1 := by
      unfold askE
      rw [hR]
      rfl
    rw [e]
    unfold askO
    rw [okQ_subB hq hm, hFs]
    simp only [Bool.and_self, if_true]
    split
    · exact .inl rfl
    · exact .inr rfl
  · rw [Bool.eq_iff_iff, decide_eq_true_eq]
    exact (sure_cert hO hR hM hm).symm
theorem nine_n (x : Int) : ∃ d : Int, 1 ≤ d ∧ d ≤ 9 ∧ 1 + IntKind.wrap .i64 (Int.tmod (IntKind.wrap .u64 x) 9) = d := by
  have : IntKind.u64.wrap x = x % 2 ^ 64 := by simp [IntKind.wrap, IntKind.signed, IntKind.bits]
  rw [this, Int.tmod_eq_emod_of_nonneg (by omega), IntKind.wrap_i64]
  exact ⟨_, by omega, by omega, rfl⟩
theorem and7 {x : Int} (h0 : 0 ≤ x) (h7 : x ≤ 7) : iAnd .i64 x 7 = x := by
  have : ∀ k : Fin 8, iAnd .i64 (k.1 : Int) 7 = (k.1 : Int) := by decide
  have h1 := this ⟨x.toNat, by omega⟩
  have e : ((x.toNat : Nat) : Int) = x := by omega
  dsimp only at h1
  rwa [e] at h1
theorem set_fn (f : Int → Int) (xs : List Int) {k : Nat} (hk : k < xs.length) : ((xs.take k).map f ++ xs.drop k).set k (f xs[k]) = (xs.take (k + 1)).map f ++ xs.drop (k + 1) := by
  rw [List.take_succ_eq_append_getElem hk, List.map_append, List.set_append_right _ _ (by simp; omega)]
  rw [List.length_map, List.length_take, Nat.min_eq_left (by omega), Nat.sub_self, List.drop_eq_getElem_cons hk, List.set_cons_zero, List.append_assoc]
  rfl
theorem same_fn (f : Int → Int) (xs : List Int) {k : Nat} (hk : k < xs.length) (e : f xs[k] = xs[k]) : (xs.take (k + 1)).map f ++ xs.drop (k + 1) = (xs.take k).map f ++ xs.drop k := by
  rw [List.take_succ_eq_append_getElem hk, List.map_append, List.drop_eq_getElem_cons hk, List.append_assoc]
  simp [e]
theorem get_fn (f : Int → Int) (xs : List Int) {k : Nat} (hk : k < xs.length) (h : k < ((xs.take k).map f ++ xs.drop k).length) : ((xs.take k).map f ++ xs.drop k)[k] = xs[k] := by
  rw [List.getElem_append_right (by simp; omega)]
  simp [Nat.min_eq_left (Nat.le_of_lt hk)]
theorem len_fn (f : Int → Int) (xs : List Int) (k : Nat) : ((xs.take k).map f ++ xs.drop k).length = xs.length := by
  simp
  omega
theorem asked1_c {w : World} {x y : Value} {xs ys : List Int} {p : Addr} (hc : w.cell? p = some x) (hx : SlI w x xs) (hy : SlI w y ys) : Calls Tryz.prog 30 #[y, .pointer (some p)] w (Ret w (.bool (decide (ys = xs)))) := by
  refine f30_calls _ _ ⟨_, hc, (equal_c hy hx).mono ?_⟩
  rintro e w2 ⟨rfl, g2⟩
  exact ⟨_, rfl, rfl, g2⟩
theorem repairAsked_c {w : World} {sv fv hv bv xv : Value} {s h xs : List Int} {b L : List Atm} (hs : SlI w sv s) (hl : SlA w fv L) (hh : SlI w hv h) (hb : SlA w bv b) (hx : SlI w xv xs) (hT : Tab w) :
    Calls Tryz.prog 7 #[sv, fv, .agg #[hv, bv], xv] w (Ret w (.bool true)) := by
  refine f7_calls _ _ _ _ ⟨_, rfl, fun w1 hw1 => ?_⟩
  have g1 := alloc_grow hw1
  have hQ := RecV.new hw1
  have z1 := alloc_size hw1
  refine argsG (hs.grow g1) (hl.gr g1) (hh.grow g1) (hb.gr g1) (fun g => (hQ.grow g).all) fun s1 f1 h1 b1 w11 o1 o2 o3 o4 g11 => (sure_c o1 o2 o3 o4 (hT.grow (g1.trans g11))).mono ?_
  rw [askE_tr]
  rintro e w14 ⟨va, rfl, hva, g14⟩
  have g114 := g11.trans g14
  have g014 := g1.trans g114
  have fin : ∀ {E : World}, Grow w E → Calls Tryz.prog 16 #[] E fun e w' => ∃ t : Bool, e = .returned (Value.bool t) ∧ Ret w (.bool true) (.returned (Value.bool t)) w' := fun gE => awake7_c.mono (by
    rintro e w23 ⟨rfl, g23⟩
    exact ⟨_, rfl, rfl, gE.trans g23⟩)
  refine ⟨_, _, rfl, g14, condP_i (fun hne => ?_) fun heq => ?_⟩
  · have hne : ¬ askE false s h b L = 0 := by simpa using hne
    refine cF (decide_eq_false hne) ?_
    rcases askE_cases false s h b L with h3 | h3 | h3
    · exact absurd h3 hne
    · exact cT (decide_eq_true h3) (fin g014)
    · exact cF (decide_eq_false (by omega)) (cT (decide_eq_true h3) (fin g014))
  have h0 : askE false s h b L = 0 := by simpa using heq
  have d0 : decide (askE false s h b L = 0) = true := decide_eq_true h0
  obtain ⟨hR, hO, hq, e1, e2, e3, e4, _⟩ := askE_ok h0
  rw [if_pos h0, e1, e2, e3, e4] at hva
  refine hx.ln ⟨_, (hQ.grow g114).cell (j := 0) rfl, hh.ln (condP_i (fun _ => cT d0 (fin g014)) fun hlen => ?_)⟩
  have hlen : xs.length = h.length := by simp at hlen; omega
  refine ⟨[_, _], rfl, (hQ.grow g114).all, (refValid_c (hh.grow g014) (hb.gr g014)).mono ?_⟩
  rintro e w44 ⟨rfl, g44⟩
  have g144 := g114.trans g44
  have g044 := g1.trans g144
  rw [hq]
  have hA : ∀ a ∈ b, okA a = true := fun a ha => by
    have h1 := hq
    simp only [okQ, Bool.and_eq_true, List.all_eq_true] at h1
    exact h1.1.2 a ha
  have hin := head_in hq
  have hbl := okQ_len hq
  have hhl : h.length ≤ 9 := by rw [← e2, List.length_take]; omega
  have hin8 : ∀ x ∈ h, 0 ≤ x ∧ x < 8 := fun x hx => by
    obtain ⟨i1, i2⟩ := hin x hx
    obtain ⟨a, ha, hxa⟩ := List.mem_flatMap.1 i2
    have := ((okA_iff.1 (hA a ha)).2.2.2.2 x hxa)
    omega
  refine ⟨_, rfl, cF rfl fun w56 hw56 => ?_⟩
  have g56 := alloc_grow hw56
  have z56 := alloc_size hw56
  have g056 := g044.trans g56
  have g1456 := g44.trans g56
  obtain ⟨A, eA⟩ : ∃ A, A = w44.heap.size := ⟨_, rfl⟩
  have hM56 : RecV w56 A (encV [0, 0, 0, 0, 0, 0, 0, 0]) := by rw [eA]; exact RecV.new hw56
  rw [← eA]
  have hQ56 := hQ.grow (g144.trans g56)
  have z44 := g144.size
  refine ⟨_, hQ56.cell (j := 0) rfl, hh.ln ⟨fun t w' => ∃ (k : Nat) (m : Vals), t = k ∧ k ≤ h.length ∧ m.length = 8 ∧ RecV w' A (encV m) ∧ HeadM (h.take k) m ∧ Nine m ∧ Fr (fun i => i = A) w56 w', fun t _ => h.length - t.toNat, ⟨0, _, rfl, by omega, rfl, hM56, HeadM.nil, Nine.zero, Fr.refl _ _⟩, ?_⟩⟩
  rintro - t w65 ⟨k, m, rfl, hk, hm8, hM, hHM, hN, f65⟩
  have g065 : Grow w w65 := g056.fr f65 fun i hi e => by have := g044.size; omega
  have g1465 : Grow w14 w65 := g1456.fr f65 fun i hi e => by have := g44.size; omega
  refine condD (fun hlt => ?_) fun hge => ?_
  · have hkl : k < h.length := by omega
    have h8 := hin8 _ (List.getElem_mem hkl)
    obtain ⟨n, n1, n9, en⟩ := nine_n (xs[k]'(by omega))
    have step : ∀ {w' : World}, (m.getD h[k].toNat 0 = 0 ∨ m.getD h[k].toNat 0 = n) → w' = w65.setCell (Addr.add ⟨A, 0, none⟩ (Int.toNat h[k] * 1)) (.int .i64 n) → inR ((k : Int) + 1) ∧ ((∃ (k' : Nat) (m : Vals), (k : Int) + 1 = k' ∧ k' ≤ h.length ∧ m.length = 8 ∧ RecV w' A (encV m) ∧ HeadM (h.take k') m ∧ Nine m ∧ Fr (fun i => i = A) w56 w') ∧ h.length - Int.toNat ((k : Int) + 1) < h.length - Int.toNat (k : Int)) := fun {w'} hold hw => by
      have hw' : w' = w65.setCell (Addr.add ⟨A, 0, none⟩ h[k].toNat) (encI n) := by rw [hw, Nat.mul_one, encI]
      refine ⟨by unfold inR; omega, ⟨k + 1, m.set h[k].toNat n, by omega, by omega, by simpa using hm8, ?_, ?_, hN.set (by omega) n1 n9, f65.trans (RecV.set_fr hw')⟩, by omega⟩
      · rw [← encV_set hm8 (by omega)]
        exact hM.set hw'
      · rw [List.take_succ_eq_append_getElem hkl]
        exact hHM.snoc h8.1 (by omega) (by omega) hold
    refine (hh.grow g065).rd rfl hkl ((hx.grow g065).rd rfl (by omega) ?_)
    rw [en]
    refine ⟨by decide, by unfold inR; omega, by omega, _, cells8 hM (by omega), condP_i (fun hne => ⟨by omega, _, cells8 hM (by omega), condP_i (fun _ => fin g065) fun heq => ⟨by omega, ⟨_, cells8 hM (by omega)⟩, hM.free _, fun w' hw' => step (.inr ?_) hw'⟩⟩) fun hz => ⟨by omega, ⟨_, cells8 hM (by omega)⟩, hM.free _, fun w' hw' => step (.inl ?_) hw'⟩⟩
    · simpa using heq
    · simpa using hz
  have hkn : k = h.length := by omega
  subst hkn
  rw [List.take_length] at hHM
  have hQ65 := hQ56.fr f65 (by omega)
  refine ⟨[_, _], rfl, hQ65.all, (ofO_c (hh.grow g065) (hb.gr g065)).mono ?_⟩
  rintro e w82 ⟨hv', bv', ps, rfl, oh, nb, eps, g82, hsep⟩
  rw [e3] at eps
  have pbl : ∀ p ∈ ps, ∀ i, p.1.ownBlock = some i → w65.heap.size ≤ i ∧ i < w82.heap.size := fun p hp i hi => Own.lt (nb.args p hp) hi
  have nbl : ∀ i, bv'.ownBlock = some i → w65.heap.size ≤ i ∧ i < w82.heap.size := fun i hi => Own.lt nb.own hi
  refine ⟨_, rfl, fun w85 hw85 => RecV.init (cs := [hv', bv']) hw85 rfl (by
      intro u hu
      simp at hu
      rcases hu with rfl | rfl
      · exact (Own.one oh).2
      · exact (Own.one nb.own).2) fun w86 g86 z86 hO86 => ?_⟩
  intro w88 hw88
  have g88 := alloc_grow hw88
  have z88 := alloc_size hw88
  have bx88 := Box.new hw88
  obtain ⟨O, eO⟩ : ∃ O, O = w82.heap.size := ⟨_, rfl⟩
  obtain ⟨W, eW⟩ : ∃ W, W = w86.heap.size := ⟨_, rfl⟩
  rw [← eO] at hO86 z86
  rw [← eW] at bx88
  rw [← eO, ← eW]
  have g8288 := g86.trans g88
  have g6588 := g82.trans g8288
  have g088 := g065.trans g6588
  have hO88 := hO86.grow g88
  have hQ88 := hQ65.grow g6588
  have hM88 := hM.grow g6588
  have zA : A < w65.heap.size := hM.lt
  have z82 := g82.size
  have z8688 := g86.size
  refine ⟨_, hQ88.cell (j := 0) rfl, hh.ln ⟨fun t w' => ∃ (k : Nat) (wv : Value), t = k ∧ k ≤ h.length ∧ Box w' W wv ∧ OwnI w' w88.heap.size wv ((h.take k).map fun x => m.getD x.toNat 0) ∧ Fr (fun i => i = W ∨ w88.heap.size ≤ i) w88 w', fun t _ => h.length - t.toNat, ⟨0, _, rfl, by omega, bx88, by simpa [OwnI] using Own.nil w88 w88.heap.size 3 1, Fr.refl _ _⟩, ?_⟩⟩
  rintro - t w97 ⟨k, wv, rfl, hk, hbx, how, f97⟩
  have g6597 : Grow w65 w97 := g6588.fr f97 fun i hi e => by omega
  have g097 := g065.trans g6597
  refine condD (fun hlt => ?_) fun hge => ?_
  · have hkl : k < h.length := by omega
    have h8 := hin8 _ (List.getElem_mem hkl)
    refine (hh.grow g097).rd rfl hkl fun d => ?_
    obtain ⟨wd, ewd⟩ : ∃ wd, wd = dr w97 d.1 := ⟨_, rfl⟩
    have gd : Grow w97 wd := by rw [ewd]; exact (Grow.refl w97).dr d.1
    rw [← ewd]
    have hMd := hM.grow (g6597.trans gd)
    have hbd := hbx.grow gd
    have next : ∀ {wl : World}, wl = wd.alloc (.cells #[.int .i64 (m.getD h[k].toNat 0)] 3) → PApp Tryz.prog 22 22 wv (.slice (some ⟨wd.heap.size, 0, none⟩) 1 1) wl fun t w69 => oneV t ∧ (∃ old, w69.cell? ⟨W, 0, none⟩ = some old) ∧ w69.frozen? ⟨W, 0, none⟩ = false ∧ ∀ w70, w70 = w69.setCell ⟨W, 0, none⟩ t →
        inR ((k : Int) + 1) ∧ ((∃ (k' : Nat) (wv : Value), (k : Int) + 1 = k' ∧ k' ≤ h.length ∧ Box w70 W wv ∧ OwnI w70 w88.heap.size wv ((h.take k').map fun x => m.getD x.toNat 0) ∧ Fr (fun i => i = W ∨ w88.heap.size ≤ i) w88 w70) ∧ h.length - Int.toNat ((k : Int) + 1) < h.length - Int.toNat (k : Int)) := fun {wl} hwl => by
      have gl := alloc_grow hwl
      have hne : ∀ j, some j = wv.ownBlock → w88.heap.size ≤ j := fun j e => (Own.lt how e.symm).1
      refine papp1 el_int hwl (Own.grow how gd) rfl (by have := f97.size; have := gd.size; omega) (by simp; omega) (by omega) ?_
      intro v2 w69 ho2 hf2 _
      have hb2 : Box w69 W wv := (hbd.grow gl).fr hf2 fun e => by have := hne _ e; omega
      refine ⟨Own.one ho2, ⟨_, hb2.cell⟩, hb2.free, fun w70 hw70 => ⟨by unfold inR; omega, ⟨k + 1, v2, by omega, by omega, hb2.set hw70, ?_, ?_⟩, by omega⟩⟩
      · have h9 : OwnI w69 w88.heap.size v2 ((h.take (k + 1)).map fun x => m.getD x.toNat 0) := by
          rw [List.take_succ_eq_append_getElem hkl, List.map_append]
          unfold OwnI
          rw [List.length_append, List.map_append]
          exact ho2
        exact Own.fr h9 (set_fr hw70) fun j hj e => by have := (Own.lt h9 hj).1; have e : j = W := e; omega
      · exact (f97.trans (Fr.of_grow gd)).trans ((Fr.of_grow gl).trans ((hf2.mono fun j _ e => .inr (hne j e)).trans ((set_fr hw70).mono fun j _ e => .inl e)))
    refine ⟨by omega, _, cells8 hMd (by omega), ⟨wv, hbd.cell, fun wl hwl => next hwl⟩, fun wl hwl => ⟨wv, (hbd.grow (alloc_grow hwl)).cell, next hwl⟩⟩
  have hkn : k = h.length := by omega
  subst hkn
  rw [List.take_length] at how
  have hO97 : RecV w97 O [hv', bv'] := hO88.fr f97 (by omega)
  refine ⟨(SlI.nil w97).one, ⟨_, hO97.cell (j := 0) rfl⟩, hO97.free 0, fun w114 hw114 => ?_⟩
  have f114 := RecV.set_fr hw114
  have hO114 : RecV w114 O [.slice none 0 0, bv'] := hO97.set hw114
  have nb114 : Nest w114 w65.heap.size bv' ps := ((nb.grow g8288).fr f97 (fun i hi e => by have := nbl i hi; omega) fun p hp i hi e => by have := pbl p hp i hi; omega).fr f114 (fun i hi e => by have := nbl i hi; omega) fun p hp i hi e => by have := pbl p hp i hi; omega
  have g65114 : Grow w65 w114 := g6597.fr f114 fun i hi e => by omega
  have hbx114 : Box w114 W wv := hbx.fr f114 (by omega)
  have how114 : OwnI w114 w88.heap.size wv (h.map fun x => m.getD x.toNat 0) := Own.fr how f114 fun i hi e => by have := (Own.lt how hi).1; omega
  have z97 := f97.size
  have z114 := f114.size
  refine ⟨_, hO114.cell (j := 1) rfl, SlX.ln nb114.slA ?_⟩
  rw [List.length_map]
  refine ⟨fun t w' => ∃ (k : Nat) (qs : List (Value × Atm)), t = k ∧ k ≤ ps.length ∧ Nest w' w65.heap.size bv' qs ∧ qs.map Prod.fst = ps.map Prod.fst ∧ qs.length = ps.length ∧ (∀ i (hi : i < qs.length) (hi' : i < ps.length), qs[i].2 = if i < k then subA m ps[i].2 else ps[i].2) ∧ Fr (fun i => ∃ p ∈ ps, p.1.ownBlock = some i) w114 w', fun t _ => ps.length - t.toNat, ⟨0, ps, rfl, by omega, nb114, rfl, rfl, fun i hi _ => by rw [if_neg (by omega)], Fr.refl _ _⟩, ?_⟩
  rintro - t w123 ⟨k, qs, rfl, hk, nq, eqf, eql, eqs, f123⟩
  have g65123 : Grow w65 w123 := g65114.fr f123 fun i hi ⟨p, hp, e⟩ => by have := pbl p hp _ e; omega
  have hM123 := hM.grow g65123
  have memf : ∀ i (hi : i < qs.length), ∃ p ∈ ps, p.1 = qs[i].1 := fun i hi => by
    have : qs[i].1 ∈ ps.map Prod.fst := eqf ▸ List.mem_map.2 ⟨qs[i], List.getElem_mem hi, rfl⟩
    obtain ⟨p, hp, e⟩ := List.mem_map.1 this
    exact ⟨p, hp, e⟩
  refine condD (fun hlt => ?_) fun hge => ?_
  · have hkp : k < ps.length := by omega
    have hkq : k < qs.length := by omega
    refine Nest.loc nq rfl hkq rfl fun w129 g129 z129 c0 c1 => ?_
    obtain ⟨u, hu⟩ : ∃ u, u = qs[k].1 := ⟨_, rfl⟩
    obtain ⟨ys, hys⟩ : ∃ ys, ys = ps[k].2.2 := ⟨_, rfl⟩
    have hy7 : ∀ y ∈ ys, y ≤ 7 := fun y hy => by
      have h1 : ps[k].2 ∈ b := eps ▸ List.mem_map.2 ⟨ps[k], List.getElem_mem hkp, rfl⟩
      exact ((okA_iff.1 (hA _ h1)).2.2.2.2 y (hys ▸ hy)).2
    have eqk : qs[k].2 = ps[k].2 := by
      have := eqs k hkq hkp
      rwa [if_neg (by omega)] at this
    have ou : OwnI w129 w65.heap.size u ys := by
      have := Own.grow (nq.args _ (List.getElem_mem hkq)) g129
      rw [eqk, ← hys, ← hu] at this
      exact this
    rw [← hu] at c1
    obtain ⟨p0, hp0, ep0⟩ := memf k hkq
    rw [← hu] at ep0
    have ful : ∀ i, u.ownBlock = some i → w65.heap.size ≤ i ∧ i < w82.heap.size := fun i hi => pbl p0 hp0 i (ep0 ▸ hi)
    have z123 := f123.size
    refine ⟨_, c1, (Own.slI ou).ln ?_⟩
    refine ⟨fun t w' => ∃ j : Nat, t = j ∧ j ≤ ys.length ∧ OwnI w' w65.heap.size u ((ys.take j).map (subT m) ++ ys.drop j) ∧ Fr (fun i => u.ownBlock = some i) w129 w', fun t _ => ys.length - t.toNat, ⟨0, rfl, by omega, by simpa using ou, Fr.refl _ _⟩, ?_⟩
    rintro - t w139 ⟨j, rfl, hj, ou139, f139⟩
    have hyl := (Own.slI ou).len_le
    have hM139 : RecV w139 A (encV m) := (hM123.grow g129).fr f139 fun e => by have := ful _ e; omega
    refine condD (fun hlt2 => ?_) fun hge2 => ?_
    · have hjl : j < ys.length := by omega
      have hjl2 : j < ((ys.take j).map (subT m) ++ ys.drop j).length := by rw [len_fn]; exact hjl
      have y7 := hy7 _ (List.getElem_mem hjl)
      refine (Own.slI ou139).rd rfl hjl2 ?_
      rw [get_fn (subT m) _ hjl]
      have stay : subT m ys[j] = ys[j] → inR ((j : Int) + 1) ∧ ((∃ j' : Nat, (j : Int) + 1 = j' ∧ j' ≤ ys.length ∧ OwnI w139 w65.heap.size u ((ys.take j').map (subT m) ++ ys.drop j') ∧ Fr (fun i => u.ownBlock = some i) w129 w139) ∧ ys.length - Int.toNat ((j : Int) + 1) < ys.length - Int.toNat (j : Int)) := fun e => by
        refine ⟨by unfold inR; omega, ⟨j + 1, by omega, by omega, ?_, f139⟩, by omega⟩
        rw [same_fn (subT m) _ hjl e]
        exact ou139
      refine condP_i (fun hpos => ?_) fun hneg => stay ?_
      · have hpos : 0 ≤ ys[j] := by simpa using hpos
        have e7 := and7 hpos y7
        rw [e7]
        refine ⟨by omega, _, cells8 hM139 (by omega), condP_i (fun hne => fun d => ?_) fun hz => stay ?_⟩
        · have hne : m.getD ys[j].toNat 0 ≠ 0 := by simpa using hne
          have gm : Grow w139 (dr w139 d.1) := (Grow.refl w139).dr d.1
          have esub : subT m ys[j] = 0 - m.getD ys[j].toNat 0 := by
            unfold subT
            rw [if_pos ⟨hpos, hne⟩]
            omega
          have hn9 := hN ys[j].toNat
          have c1' : (dr w139 d.1).cell? (Addr.add ⟨w123.heap.size, 0, none⟩ 1) = some u := gm.cell (f139.cell c1 fun e => by
            rw [add_block] at e
            have e : u.ownBlock = some w123.heap.size := e
            have := ful _ e
            omega)
          refine ⟨by omega, _, c1', _, cells8 (hM139.grow gm) (by omega), by unfold inR; omega, ?_⟩
          refine ownPut (Own.grow ou139 gm) rfl hjl2 fun w' ho hf => ⟨by unfold inR; omega, ⟨j + 1, by omega, by omega, ?_, (f139.trans (Fr.of_grow gm)).trans hf⟩, by first | omega | (dsimp only; omega)⟩
          rw [← esub, set_fn (subT m) _ hjl] at ho
          exact ho
        · have hz : m.getD ys[j].toNat 0 = 0 := by simpa using hz
          unfold subT
          rw [if_neg fun h => h.2 hz]
      · have hneg : ¬ 0 ≤ ys[j] := by simpa using hneg
        unfold subT
        rw [if_neg fun h => hneg h.1]
    · have hjn : j = ys.length := by omega
      subst hjn
      rw [List.take_length, List.drop_length, List.append_nil] at ou139
      have hle := SlX.len_le nq.slA
      rw [List.length_map] at hle
      refine ⟨by unfold inR; omega, ⟨k + 1, qs.set k (qs[k].1, (qs[k].2.1, ys.map (subT m))), by omega, by omega, ?_, ?_, by simpa using eql, fun i hi hi' => ?_, ?_⟩, by first | omega | (dsimp only; omega)⟩
      · refine Nest.put nq hkq (by rw [← hu]; exact ou139) ?_
        rw [← hu]
        exact (Fr.of_grow g129).trans f139
      · rw [← eqf, List.map_set]
        apply List.ext_getElem (by simp)
        intro a h1 h2
        rw [List.getElem_set]
        split
        · rename_i e
          subst e
          simp
        · rfl
      · rw [List.getElem_set]
        split
        · rename_i e
          subst e
          rw [if_pos (by omega)]
          show (qs[k].2.1, ys.map (subT m)) = subA m ps[k].2
          rw [eqk, hys]
          rfl
        · rename_i e
          rw [eqs i (by simpa using hi) hi']
          by_cases hik : i < k
          · rw [if_pos hik, if_pos (by omega)]
          · rw [if_neg hik, if_neg (by omega)]
      · exact (f123.trans (Fr.of_grow g129)).trans (f139.mono fun i _ e => ⟨p0, hp0, ep0 ▸ e⟩)
  have hkn : k = ps.length := by omega
  subst hkn
  have hqs : qs.map Prod.snd = subB m b := by
    rw [← eps]
    unfold subB
    rw [List.map_map]
    apply List.ext_getElem (by simpa using eql)
    intro i h1 h2
    have hi : i < qs.length := by simpa using h1
    have hi' : i < ps.length := by simpa using h2
    rw [List.getElem_map, List.getElem_map, eqs i hi hi', if_pos hi']
    rfl
  have hbB : SlA w123 bv' (subB m b) := by rw [← hqs]; exact nq.slA
  have hO123 : RecV w123 O [.slice none 0 0, bv'] := hO114.fr f123 fun ⟨p, hp, e⟩ => by have := pbl p hp _ e; omega
  have hbx123 : Box w123 W wv := hbx114.fr f123 fun ⟨p, hp, e⟩ => by have := pbl p hp _ e; omega
  have how123 : OwnI w123 w88.heap.size wv (h.map fun x => m.getD x.toNat 0) := Own.fr how114 f123 fun i hi ⟨p, hp, e⟩ => by have := (Own.lt how114 hi).1; have := pbl p hp _ e; omega
  have g0123 := g065.trans g65123
  intro d
  have gd : Grow w123 (dr w123 d.1) := (Grow.refl w123).dr d.1
  have gD := g0123.trans gd
  refine ⟨[_, _], rfl, (hO123.grow gd).all, (few7_c (hs.grow gD)).mono ?_⟩
  rintro e w154 ⟨s2, rfl, p1, g154⟩
  refine ⟨_, rfl, g154, (factsS_c (hl.gr (gD.trans g154))).mono ?_⟩
  rintro e w157 ⟨f2, rfl, p2, g157⟩
  have g123157 := (gd.trans g154).trans g157
  refine ⟨_, rfl, g157, (certain_c (SlI.grow (Own.slI p1) g157) p2 (SlI.nil _) (hbB.gr g123157) (hT.grow (g0123.trans g123157))).mono ?_⟩
  rw [e1, e4]
  rintro e w160 ⟨rfl, g160⟩
  have g123160 := g123157.trans g160
  have g0160 := g0123.trans g123160
  obtain ⟨hcs, hce⟩ := asked_fin h0 hHM hN
  refine ⟨_, _, rfl, g160, (containsL_c (p := fun y => decide (y = h.map fun x => m.getD x.toNat 0)) (hva.gr ((g1465.trans g65123).trans g123160)) ⟨30, #[], _, rfl, rfl, fun y hy w' v gg hv => ?_⟩).mono ?_⟩
  · rw [app1]
    exact asked1_c (gg.cell (hbx123.grow g123160).cell) ((SlI.grow (Own.slI how123) g123160).grow gg) hv
  rintro e w164 ⟨rfl, g164⟩
  have g0164 := g0160.trans g164
  refine ⟨_, rfl, ?_⟩
  rcases hcs with hc | hc
  · refine cF (decide_eq_false (by omega)) (cT (decide_eq_true hc) (cT ?_ (fin g0164)))
    rw [hce, decide_eq_true hc, Bool.true_and, beq_iff_eq, Bool.eq_iff_iff, decide_eq_true_eq, List.any_eq_true]
    constructor
    · exact fun h => ⟨_, h, decide_eq_true rfl⟩
    · rintro ⟨y, hy, e⟩
      exact of_decide_eq_true e ▸ hy
  · exact cT (decide_eq_true hc) (fin g0164)
end Go.Proofs.YtmjpnfapjcfejaaGreatDoor
