/- Contracts: slices.DeleteFunc of rows of the call's own; Sure, by the program. The table of bits is laid (Tab). -/
import Derived.Test.YtmjpnfapjcfejaaGreatDoorMs
import Derived.Test.YtmjpnfapjcfejaaGreatDoorRo
import Derived.Test.YtmjpnfapjcfejaaGreatDoorGsu
namespace Go.Proofs.YtmjpnfapjcfejaaGreatDoor
open Go Go.RowKit VC
set_option linter.unusedSimpArgs false
set_option linter.unusedVariables false

/-- A function that is asked of each row, while the slice's own cells turn. -/
def AsksX (T : Nat → Prop) (w : World) (v f : Value) (L : List (List Int)) (p : List Int → Bool) : Prop :=
  ∃ g fst cap, f = .func (.func g) fst cap ∧ callOK g = true ∧ ∀ x ∈ L, ∀ w' u, FrT T v w w' → SlI w' u x → Calls Tryz.prog g (fst ++ #[u] ++ cap) w' (Ret w' (.bool (p x)))
structure DlL (T : Nat → Prop) (w : World) (B g n cap : Nat) (l : List (List Int)) (p : List Int → Bool) (ps : List (List Value × List Int)) (a b : Nat) (w' : World) (qs : List (List Value × List Int)) : Prop where
  len : qs.length = n
  kept : (qs.take a).map Prod.snd = (l.take b).filter fun x => !p x
  rest : ∀ i, b ≤ i → qs[i]? = ps[i]?
  el : ∀ q ∈ qs, ElX T 1 repI (.slice (some ⟨g, 0, none⟩) n cap) w' q
  own : Own w' B 22 1 (.slice (some ⟨g, 0, none⟩) n cap) n (qs.flatMap Prod.fst)
  fr : Fr (fun b => b = g) w w'
theorem deleteL_c {T : Nat → Prop} {w : World} {B : Nat} {v f : Value} {l : List (List Int)} {p : List Int → Bool} (ho : OwnX T 1 repI w B 22 v l) (hf : AsksX T w v f l p) : Calls Tryz.prog 49 #[v, f] w fun e w' => ∃ v', e = .returned v' ∧ OwnX T 1 repI w' B 22 v' (l.filter fun x => !p x) ∧ FrO v w w' ∧ (∀ b, v'.ownBlock = some b → v.ownBlock = some b) := by
  refine f49_calls _ _ ?_
  obtain ⟨fg, fst, fc, rfl, hok, hcall⟩ := hf
  have hle := SlX.len_le ho.slX
  refine (indexL_c (p := p) ho.slX ⟨fg, fst, fc, rfl, hok, fun x hx w' u gg hu => hcall x hx w' u (Fr.of_grow gg) hu⟩).mono ?_
  rintro e w1 ⟨rfl, g1⟩
  refine ⟨_, rfl, condD (fun h1 => ⟨v, rfl, ?_, Fr.of_grow g1, fun b hb => hb⟩) fun hne => ?_⟩
  · have : (l.filter fun x => !p x) = l := by
      refine List.filter_eq_self.2 fun x hx => ?_
      have h2 := idxOf_any p l
      rw [h1] at h2
      have h3 : l.any p = false := by rw [← h2]; rfl
      have := List.any_eq_false.1 h3 x hx
      simpa using this
    rw [this]
    exact ho.grow g1
  -- the first that goes
  have hfi : ∃ (k : Nat) (hk : k < l.length), idxOf p l = k ∧ p l[k] = true ∧ ∀ j (hj : j < l.length), j < k → p l[j] = false := by
    unfold idxOf at hne ⊢
    cases hx : l.findIdx? p with
    | none => rw [hx] at hne; exact absurd rfl hne
    | some k =>
      obtain ⟨hk, h2, h3⟩ := List.findIdx?_eq_some_iff_getElem.1 hx
      exact ⟨k, hk, rfl, h2, fun j hj hlt => by simpa using h3 j hlt⟩
  obtain ⟨k, hk, ek, hpk, hbef⟩ := hfi
  rw [ek]
  obtain ⟨ps, hps, hel, hown⟩ := ho.ex
  have hpl : ps.length = l.length := by rw [← hps, List.length_map]
  have hv : ∃ g cap, v = .slice (some ⟨g, 0, none⟩) l.length cap ∧ l.length ≤ cap ∧ g < w.heap.size := by
    rcases hown.2 with ⟨_, h0⟩ | ⟨g, cap, cur, rfl, hb, hgg, hnc, _⟩
    · omega
    · exact ⟨g, cap, rfl, hnc, (Array.getElem?_eq_some_iff.1 hgg).1⟩
  obtain ⟨g, cap, rfl, hcap, hgw⟩ := hv
  have idx : ∀ i (hi : i < l.length), (ps[i]'(by omega)).2 = l[i] := fun i hi => by
    simp only [← hps, List.getElem_map]
  have one : ∀ {w1 : World} {p : List Value × List Int}, ElX T 1 repI (.slice (some ⟨g, 0, none⟩) l.length cap) w1 p → ∃ a, p.1 = [a] ∧ SlI w1 a p.2 := fun {w1 p} hp => by
    obtain ⟨u, h1, hu⟩ := hp.rep w1 (Fr.refl _ _)
    exact ⟨u, h1, hu⟩
  refine ⟨by unfold inR; omega, fun i j w' => ∃ (a b : Nat) (qs : List (List Value × List Int)), i = a ∧ j = b ∧ a + 1 ≤ b ∧ b ≤ l.length ∧ DlL T w B g l.length cap l p ps a b w' qs, fun _ j _ => l.length - j.toNat, ⟨k, k + 1, ps, rfl, rfl, by omega, by omega, ⟨hpl, ?_, fun _ _ => rfl, fun q hq => (hel q hq).grow g1, Own.grow hown g1, Fr.of_grow g1⟩⟩, ?_⟩
  · rw [List.map_take, hps, List.take_succ_eq_append_getElem hk, List.filter_append, List.filter_cons, hpk]
    have : ((l.take k).filter fun x => !p x) = l.take k := List.filter_eq_self.2 fun x hx => by
      obtain ⟨j, hj, rfl⟩ := List.getElem_of_mem hx
      rw [List.length_take] at hj
      rw [List.getElem_take, hbef j (by omega) (by omega)]; rfl
    rw [this]
    simp
  rintro - - - w9 ⟨a, b, qs, rfl, rfl, hab, hbl, hI⟩
  have hql : ∀ q ∈ qs, q.1.length = 1 := fun q hq => (hI.el q hq).len
  have hqn := hI.len
  refine ⟨_, _, _, rfl, condD (fun hlt => ?_) fun hge => ?_⟩
  · have hb2 : b < l.length := by omega
    have qe : qs[b]'(by omega) = ps[b]'(by omega) := by
      have := hI.rest b (Nat.le_refl _)
      rw [List.getElem?_eq_getElem (by omega), List.getElem?_eq_getElem (by omega)] at this
      exact Option.some.inj this
    have c1 : (qs[b]'(by omega)).2 = l[b] := by rw [qe, idx]
    obtain ⟨u, ea, hu⟩ := one (hI.el _ (List.getElem_mem (show b < qs.length by omega)))
    rw [c1] at hu
    have atb : ∀ (x : Nat), Addr.add ⟨g, 0, none⟩ (x * 1) = ⟨g, x * 1 + 0, none⟩ := fun x => by rw [Addr.add0]; rfl
    refine ⟨_, _, _, rfl, ⟨by omega, by omega⟩, u, ?_, fg, fst, fc, rfl, hok, (hcall l[b] (List.getElem_mem hb2) w9 u (hI.fr.mono fun b' _ e => .inr (by rw [e]; rfl)) hu).mono ?_⟩
    · rw [Int.toNat_natCast, atb]; exact rec_al hql hI.own (by omega) 0 u (by rw [ea]; rfl)
    rintro e w17 ⟨rfl, g17⟩
    have hI17 : DlL T w B g l.length cap l p ps a b w17 qs := ⟨hqn, hI.kept, hI.rest, fun q hq => (hI.el q hq).grow g17, Own.grow hI.own g17, hI.fr.trans (Fr.of_grow g17)⟩
    have hst : ∀ z, p l[b] = z → (l.take (b + 1)).filter (fun x => !p x) = (l.take b).filter (fun x => !p x) ++ (if z then [] else [l[b]]) := fun z hz => by
      rw [List.take_succ_eq_append_getElem hb2, List.filter_append, List.filter_cons, hz]
      cases z <;> simp
    refine ⟨_, rfl, condP_i (fun hn => ?_) fun hp => ?_⟩
    · have hn : p l[b] = false := by simpa using hn
      have hst := hst false hn
      rw [if_neg (by decide)] at hst
      have aA : Addr.add ⟨g, 0, none⟩ (Int.toNat (a : Int) * 1) = ⟨g, a, none⟩ := by rw [Int.toNat_natCast, Addr.add0]; simp
      refine ⟨_, _, _, rfl, ⟨by omega, by omega⟩, hu.one, ?_⟩
      rw [aA]
      refine ⟨(Own.wr hI17.own (show a < l.length by omega)).1, (Own.wr hI17.own (show a < l.length by omega)).2, fun w26 hw26 => ?_⟩
      have hf26 : Fr (fun k => k = g) w17 w26 := set_fr hw26
      have ho26 := Own.set hI17.own (show a < l.length by omega) hw26
      have hel17 := hI17.el _ (List.getElem_mem (show b < qs.length by omega))
      refine ⟨by unfold inR; omega, by unfold inR; omega, ⟨a + 1, b + 1, qs.set a (qs[b]'(by omega)), by omega, by omega, by omega, by omega, ?_⟩, by dsimp only; omega⟩
      refine ⟨by simpa using hqn, ?_, fun j hj => ?_, fun q hq => ?_, ?_, hI17.fr.trans hf26⟩
      · rw [hst, ← hI.kept, List.take_succ_eq_append_getElem (by simp; omega), List.map_append]
        congr 1
        · rw [List.take_set_of_le (by omega)]
        · simp [c1]
      · rw [List.getElem?_set_ne (by omega)]
        exact hI.rest j (by omega)
      · rcases List.mem_or_eq_of_mem_set hq with hq | rfl
        · exact (hI17.el q hq).later (hf26.mono fun b' _ e => .inr (by rw [e]; rfl))
        · exact hel17.later (hf26.mono fun b' _ e => .inr (by rw [e]; rfl))
      · rw [flat_set1 hql (by omega) ea]; exact ho26
    · have hp : p l[b] = true := by simpa using hp
      have hst := hst true hp
      rw [if_pos rfl, List.append_nil] at hst
      exact ⟨by unfold inR; omega, ⟨a, b + 1, qs, rfl, by omega, by omega, by omega, ⟨hqn, by rw [hst]; exact hI.kept, fun i hi => hI.rest i (by omega), hI17.el, hI17.own, hI17.fr⟩⟩, by dsimp only; omega⟩
  · have hbl2 : b = l.length := by omega
    have hsb2 : sbR (some (Value.int .i64 (a : Int))) none none l.length cap a l.length cap := ⟨rfl, rfl, rfl, by simp, by omega, by omega, by omega⟩
    have hca : ¬ cap = a := by omega
    have hfl : (qs.flatMap Prod.fst).length = qs.length * 1 := flat_len' hql
    have hzl : (Builtin.zeroCells (Value.slice none 0 0).cells (l.length - a)).toList.length = (l.length - a) * 1 := by
      rw [Array.length_toList, size_zeroCells]; rfl
    obtain ⟨w74, hr, hf74, ho74⟩ := Own.put (P := Tryz.prog) (o := a * 1) (vs := (Builtin.zeroCells (Value.slice none 0 0).cells (l.length - a)).toList) hI.own (by rw [hzl]; omega) (zeroCells_mem (by decide) (by
      intro u hu
      simp [Value.cells] at hu
      subst hu; rfl))
    refine ⟨_, _, _, rfl, a, l.length, cap, hsb2, w74, ?_, ?_⟩
    · rw [if_neg hca]
      refine clear_run el_row (by omega) ?_
      show (storeCells (Addr.add ⟨g, 0, none⟩ (a * 1)) _).run _ _ = _
      rw [Addr.add0]; exact hr
    · refine ⟨_, _, _, rfl, 0, a, cap, ⟨rfl, rfl, rfl, by simp, by omega, by omega, by omega⟩, ?_⟩
      have hcc : ¬ cap = 0 := by omega
      have hcut := Own.cut ho74 (k := a) (by omega)
      have e5 : ((qs.flatMap Prod.fst).take (a * 1) ++ (Builtin.zeroCells (Value.slice none 0 0).cells (l.length - a)).toList ++ (qs.flatMap Prod.fst).drop (a * 1 + (Builtin.zeroCells (Value.slice none 0 0).cells (l.length - a)).toList.length)).take (a * 1) = (qs.take a).flatMap Prod.fst := by
        rw [List.append_assoc, List.take_append_of_le_length (by rw [List.length_take, hfl]; omega), List.take_take, Nat.min_self]
        exact (flat_take hql).symm
      rw [e5] at hcut
      have hkl : (l.filter fun x => !p x).length = a := by
        have := congrArg List.length hI.kept
        rw [hbl2, List.take_length] at this
        rw [← this]; simp; omega
      refine ⟨_, rfl, ⟨qs.take a, ?_, fun q hq => ?_, ?_⟩, hI.fr.trans hf74 |>.mono (fun b' _ e => by rw [e]; rfl), fun b' hb' => ?_⟩
      · rw [hI.kept, hbl2, List.take_length]
      · have hq' := hI.el q (List.mem_of_mem_take hq)
        refine ⟨hq'.len, hq'.one, fun w2 hf2 => hq'.rep w2 ((hf74.mono fun b' _ e => .inr (by rw [e]; rfl)).trans (hf2.mono fun b' _ e => ?_))⟩
        rcases e with e | e
        · exact .inl e
        · refine .inr ?_
          rw [if_neg hcc] at e
          simpa [Value.ownBlock, add_block] using e
      · rw [hkl, if_neg hcc]
        simpa [Addr.add0] using hcut
      · rw [if_neg hcc] at hb'
        simpa [Value.ownBlock, add_block] using hb'
/-! ## Sure -/
theorem sure2_c {w : World} {x y : Value} {xs ys : List Int} {p : Addr} (hc : w.cell? p = some x) (hx : SlI w x xs) (hy : SlI w y ys) : Calls Tryz.prog 51 #[y, .pointer (some p)] w (Ret w (.bool (decide (xs = ys)))) := by
  refine f51_calls _ _ ⟨_, hc, (equal_c hx hy).mono ?_⟩
  rintro e w2 ⟨rfl, g2⟩
  exact ⟨_, rfl, rfl, g2⟩
theorem sure1_c {w : World} {u lv : Value} {xs : List Int} {L : List (List Int)} {p : Addr} (hu : SlI w u xs) (hc : w.cell? p = some lv) (hl : SlL w lv L) : Calls Tryz.prog 50 #[u, .pointer (some p)] w (Ret w (.bool (!decide (xs ∈ L)))) := by
  refine f50_calls _ _ ⟨hu.one, fun w1 hw1 => ⟨_, (alloc_grow hw1).cell hc, ?_⟩⟩
  have g1 := alloc_grow hw1
  refine (containsL_c (p := fun y => decide (xs = y)) (hl.gr g1) ⟨51, #[], _, rfl, rfl, fun y hy w' v gg hv => ?_⟩).mono ?_
  · rw [app1]
    exact sure2_c (gg.cell (alloc_cell0 hw1)) (hu.grow (g1.trans gg)) hv
  · rintro e w3 ⟨rfl, g3⟩
    refine ⟨_, rfl, ?_, g1.trans g3⟩
    have : L.any (fun y => decide (xs = y)) = decide (xs ∈ L) := by
      rw [Bool.eq_iff_iff, List.any_eq_true, decide_eq_true_eq]
      constructor
      · rintro ⟨y, hy, h⟩
        rw [decide_eq_true_eq] at h
        exact h ▸ hy
      · exact fun h => ⟨xs, h, decide_eq_true rfl⟩
    rw [this]
/-- What the first k repairs have in common. -/
def sureK (h : List Int) (b L : List Atm) (R : List Nat) (k : Nat) : List (List Int) := if k = 0 then [] else (rowM h b L (R.getD 0 0)).filter fun x => (R.take k).all fun m => decide (x ∈ rowM h b L m)
def sureR (s h : List Int) (b L : List Atm) : List (List Int) := sureK h b L (allR (klS s) L) (allR (klS s) L).length
theorem sureK_one {h : List Int} {b L : List Atm} {R : List Nat} (hR : 0 < R.length) : sureK h b L R 1 = rowM h b L R[0] := by
  have e : R.getD 0 0 = R[0] := by simp [List.getD, hR]
  have e2 : R.take 1 = [R[0]] := by rw [List.take_succ_eq_append_getElem hR]; simp
  rw [sureK, if_neg (by decide), e, e2]
  refine List.filter_eq_self.2 fun x hx => ?_
  simp [hx]
theorem sureK_succ {h : List Int} {b L : List Atm} {R : List Nat} {k : Nat} (hk0 : k ≠ 0) (hk : k < R.length) : sureK h b L R (k + 1) = (sureK h b L R k).filter fun x => !!decide (x ∈ rowM h b L R[k]) := by
  rw [sureK, sureK, if_neg (by omega), if_neg hk0, List.filter_filter]
  refine List.filter_congr fun x _ => ?_
  rw [List.take_succ_eq_append_getElem hk, List.all_append, Bool.not_not]
  simp [Bool.and_comm]
section
variable {w : World} {sv fv hv bv : Value} {s h : List Int} {b L : List Atm}
theorem sure_c (hs : SlI w sv s) (hl : SlA w fv L) (hh : SlI w hv h) (hb : SlA w bv b) (hT : Tab w) :
    Calls Tryz.prog 21 #[sv, fv, .agg #[hv, bv]] w fun e w' => ∃ v, e = .returned (.tuple #[v, .int .i64 (askE false s h b L)]) ∧ SlL w' v (if askE false s h b L = 0 then sureR s h b L else []) ∧ Grow w w' := by
  refine f21_calls _ _ _ ⟨_, rfl, fun w1 hw1 => ?_⟩
  have g1 := alloc_grow hw1
  have hQ := RecV.new hw1
  refine ⟨[_, _], rfl, hQ.all, (ask_c (hs.grow g1) (hl.gr g1) (hh.grow g1) (hb.gr g1)).mono ?_⟩
  rintro e w4 ⟨x, y, rfl, hx, hy, hxy, g4⟩
  refine ⟨_, _, rfl, fun w8 hw8 => RecV.init (cs := [x, y]) hw8 rfl (by simp [hx.2, hy.2]) fun w9 g9 s9 hB => ?_⟩
  have g09 := (g1.trans g4).trans g9
  refine condP_i (fun hne => ?_) fun heq => ?_
  · have hne : ¬ askE false s h b L = 0 := by simpa using hne
    exact ⟨_, rfl, by rw [if_neg hne]; exact SlX.nil _, g09⟩
  have h0 : askE false s h b L = 0 := by simpa using heq
  obtain ⟨rfl, rfl⟩ := hxy h0
  have hR : okR s L = true := by
    cases hr : okR s L with
    | true => rfl
    | false => rw [askE, hr] at h0; simp at h0
  have hO : (askO h b L).1 = 0 := by
    unfold askE at h0
    split at h0
    · exact h0
    · cases h0
  have h12 := (okR_out hR).2.1
  refine ⟨[_, _], rfl, hB.all, (repairs_c (hs.grow g09) (hl.gr g09) hR).mono ?_⟩
  rintro e w12 ⟨rv, rfl, hrv, g12⟩
  have g012 := g09.trans g12
  refine ⟨_, rfl, hrv.ln ?_⟩
  rw [natI_len, if_pos h0]
  obtain ⟨R, hRR⟩ : ∃ R, R = allR (klS s) L := ⟨_, rfl⟩
  have hRl : R.length ≤ 4096 := by rw [hRR]; exact allR_len (klS s) L h12
  rw [← hRR] at hrv ⊢
  refine ⟨fun out t w' => ∃ k : Nat, t = k ∧ k ≤ R.length ∧ OwnX (fun _ => False) 1 repI w' w12.heap.size 22 out (sureK h b L R k) ∧ Grow w12 w', fun _ t _ => R.length - t.toNat, ⟨0, rfl, by omega, OwnX.nil _ _ _, Grow.refl _⟩, ?_⟩
  rintro - out t w23 ⟨k, rfl, hk, hout, g23⟩
  have g1223 := g23
  refine condD (fun hlt => ?_) fun hge => ?_
  · have hkl : k < R.length := by omega
    refine (hrv.grow g23).rd rfl (by rw [natI_len]; exact hkl) ?_
    rw [natI_get hkl]
    intro d
    have gd : Grow w23 (dr w23 d.1) := (Grow.refl w23).dr d.1
    have hm : R[k] < 2 ^ L.length := by
      have : R[k] ∈ allR (klS s) L := by rw [← hRR]; exact List.getElem_mem hkl
      exact (mem_allR.1 this).1
    have gD := (g012.trans g23).trans gd
    have hBD := ((hB.grow g12).grow g23).grow gd
    have hQD := (((hQ.grow (g4.trans g9)).grow g12).grow g23).grow gd
    have hs23 := g23.size
    have leaf : ∀ {w39 X lv}, Grow w23 w39 → OwnX (fun b => b < w23.heap.size) 1 repI w39 w23.heap.size 22 lv (rowM h b L R[k]) → w39.cell? ⟨X, 0, none⟩ = some lv → w23.heap.size ≤ X → condP (decide ((k : Int) = (0 : Int))) (∃ t_v40 : Value, w39.cell? ⟨X, 0, none⟩ = some t_v40 ∧ inR ((k : Int) + 1) ∧ ((∃ k' : Nat, (k : Int) + 1 = k' ∧ k' ≤ R.length ∧ OwnX (fun _ => False) 1 repI w39 w12.heap.size 22 t_v40 (sureK h b L R k') ∧ Grow w12 w39) ∧ R.length - Int.toNat ((k : Int) + 1) < R.length - Int.toNat (k : Int)))
        (Calls Tryz.prog 49 #[out, (Value.func (Fn.func 50) #[] #[(Value.pointer (some ⟨X, 0, none⟩))])] w39 fun e_v42 w_v41 => ∃ t_v43 : Value, e_v42 = .returned t_v43 ∧ inR ((k : Int) + 1) ∧ ((∃ k' : Nat, (k : Int) + 1 = k' ∧ k' ≤ R.length ∧ OwnX (fun _ => False) 1 repI w_v41 w12.heap.size 22 t_v43 (sureK h b L R k') ∧ Grow w12 w_v41) ∧ R.length - Int.toNat ((k : Int) + 1) < R.length - Int.toNat (k : Int))) := fun {w39 X lv} g39 hlv hc hX => by
      refine condD (fun hz => ?_) fun hz => ?_
      · have hz : k = 0 := by omega
        subst hz
        refine ⟨lv, hc, by unfold inR; omega, ⟨1, rfl, by omega, ?_, g23.trans g39⟩, by omega⟩
        rw [sureK_one hkl]
        exact (OwnX.base hlv hs23).weaken fun _ h => h.elim
      · have hz : k ≠ 0 := by omega
        have hout39 := hout.grow g39
        refine (deleteL_c (p := fun x => !decide (x ∈ rowM h b L R[k])) hout39 ⟨50, #[], _, rfl, rfl, fun x hx w' u hfr hu => ?_⟩).mono ?_
        · rw [app1]
          have hob : ∀ bb, out.ownBlock = some bb → bb < w23.heap.size := fun bb hbb => (hout.lt hbb).2
          have hfr2 : Fr (fun q => some q = out.ownBlock) w39 w' := hfr.mono fun q _ e => e.elim (fun h => h.elim) id
          refine sure1_c hu (hfr2.cell hc fun e => ?_) ?_
          · have := hob _ e.symm
            dsimp only at this
            omega
          · exact OwnX.slX (OwnX.fr hlv hfr2 (fun bb hbb => hob bb hbb.symm) fun bb hbb e => by
              have h1 := (hlv.lt hbb).1
              have h2 := hob bb e.symm
              omega)
        · rintro e w41 ⟨v', rfl, hv', hf41, _⟩
          refine ⟨_, rfl, by unfold inR; omega, ⟨k + 1, by omega, by omega, ?_, (g23.trans g39).fr hf41 fun i hi e => ?_⟩, by omega⟩
          · rw [sureK_succ hz hkl]
            exact hv'
          · have := (hout.lt e.symm).1
            omega
    have ch : ∀ {E} {Q : Ending → World → Prop}, Grow (dr w23 d.1) E → (∀ v w', Grow E w' → SlA w' v (ofM L R[k]) → Q (.returned v) w') → Calls Tryz.prog 48 #[.agg #[x, y], .int .i64 (R[k] : Int)] E Q := fun g0 hq => (chosen_c (hl.gr (gD.trans g0)) h12 hm (hT.grow (gD.trans g0))).mono (by
      rintro e w' ⟨v, rfl, hv, g⟩
      exact hq v w' g hv)
    have rs : ∀ {E v} {Q : Ending → World → Prop}, Grow (dr w23 d.1) E → SlA E v (ofM L R[k]) → (∀ lv w', Grow E w' → OwnRs E.heap.size w' lv (rowM h b L R[k]) → Q (.returned (.tuple #[lv, .int .i64 0])) w') → Calls Tryz.prog 27 #[.agg #[hv, bv], v] E Q := fun g0 hv hq => (results_o (hh.grow (gD.trans g0)) (hb.gr (gD.trans g0)) hv).mono (by
      rintro e w' ⟨lv, rfl, ho, g⟩
      rw [resO_ofM hO] at ho ⊢
      exact hq lv w' g ho)
    have hdz : (dr w23 d.1).heap.size = w23.heap.size := rfl
    refine ⟨[_, _], rfl, hQD.all, [_, _], rfl, hBD.all, ⟨ch (Grow.refl _) fun v w31 g31 hv31 => ⟨v, rfl, g31, rs g31 hv31 fun lv w34 g34 ho34 => ⟨_, _, rfl, g34, fun w38 hw38 => ?_⟩, fun w44 hw44 => ?_⟩, fun w54 hw54 => ?_⟩⟩
    · -- the variable last
      have g38 := alloc_grow hw38
      have hbx := Box.new hw38
      have hs31 := g31.size
      have hs34 := g34.size
      refine ⟨OwnX.one ho34, ⟨_, hbx.cell⟩, hbx.free, fun w39 hw39 => ?_⟩
      have g3439 : Grow w34 w39 := g38.fr (set_fr hw39) fun i hi e => by have e : i = w34.heap.size := e; omega
      refine leaf (((gd.trans g31).trans g34).trans g3439) ?_ (hbx.set hw39).cell (by omega)
      exact (OwnX.base (ho34.grow g3439) (by omega)).weaken fun b hb => by
        have hb : b < w23.heap.size := hb
        show b < w31.heap.size
        omega
    · -- the variable before the results
      have g44 := alloc_grow hw44
      have s44 := alloc_size hw44
      have hbx := Box.new hw44
      have hs31 := g31.size
      refine rs (g31.trans g44) (hv31.gr g44) fun lv w45 g45 ho45 => ⟨_, _, rfl, g45, OwnX.one ho45, ⟨_, (hbx.grow g45).cell⟩, (hbx.grow g45).free, fun w49 hw49 => ?_⟩
      have f49 := set_fr hw49
      have g3149 : Grow w31 w49 := (g44.trans g45).fr f49 fun i hi e => by have e : i = w31.heap.size := e; omega
      refine leaf ((gd.trans g31).trans g3149) ?_ ((hbx.grow g45).set hw49).cell (by omega)
      refine (OwnX.base (OwnX.fr ho45 f49 (fun bb e => ?_) fun bb hbb e => ?_) (by omega)).weaken fun b hb => ?_
      · have e : bb = w31.heap.size := e
        show bb < w44.heap.size
        omega
      · have e : bb = w31.heap.size := e
        have := (ho45.lt hbb).1
        omega
      · have hb : b < w23.heap.size := hb
        show b < w44.heap.size
        omega
    · -- the variable first
      have g54 := alloc_grow hw54
      have s54 := alloc_size hw54
      have hbx := Box.new hw54
      rw [hdz] at s54 hbx ⊢
      refine ch g54 fun v w55 g55 hv55 => ⟨v, rfl, g55, rs (g54.trans g55) hv55 fun lv w58 g58 ho58 => ⟨_, _, rfl, g58, OwnX.one ho58, ⟨_, ((hbx.grow g55).grow g58).cell⟩, ((hbx.grow g55).grow g58).free, fun w62 hw62 => ?_⟩⟩
      have hs55 := g55.size
      have f62 := set_fr hw62
      have g2362 : Grow w23 w62 := (((gd.trans g54).trans g55).trans g58).fr f62 fun i hi e => by have e : i = w23.heap.size := e; omega
      refine leaf g2362 ?_ (((hbx.grow g55).grow g58).set hw62).cell (Nat.le_refl _)
      refine (OwnX.base (OwnX.fr ho58 f62 (fun bb e => ?_) fun bb hbb e => ?_) (by omega)).weaken fun b hb => ?_
      · have e : bb = w23.heap.size := e
        show bb < w55.heap.size
        omega
      · have e : bb = w23.heap.size := e
        have := (ho58.lt hbb).1
        omega
      · have hb : b < w23.heap.size := hb
        show b < w55.heap.size
        omega
  · have hkl : k = R.length := by omega
    subst hkl
    refine ⟨out, by rw [h0], ?_, g012.trans g23⟩
    unfold sureR
    rw [← hRR]
    exact OwnX.slX hout
end
end Go.Proofs.YtmjpnfapjcfejaaGreatDoor

/- Contracts: Sure, by the reference; equal rows. No condition. -/
namespace Go.Proofs.YtmjpnfapjcfejaaGreatDoor
open Go Go.RowKit VC
set_option linter.unusedSimpArgs false
set_option linter.unusedVariables false

theorem mem_sureR {s h : List Int} {b L : List Atm} (hne : allR (klS s) L ≠ []) {x : List Int} : x ∈ sureR s h b L ↔ ∀ m ∈ allR (klS s) L, x ∈ rowM h b L m := by
  have hpos := List.length_pos_iff.2 hne
  have e : (allR (klS s) L).getD 0 0 = (allR (klS s) L)[0] := by simp [List.getD, hpos]
  unfold sureR sureK
  rw [if_neg (by omega), List.take_length, List.mem_filter, List.all_eq_true, e]
  constructor
  · exact fun h m hm => of_decide_eq_true (h.2 m hm)
  · exact fun h => ⟨h _ (List.getElem_mem hpos), fun m hm => decide_eq_true (h m hm)⟩
/-! ## Equal rows -/
section
variable {w : World} {sv fv hv bv : Value} {s h : List Int} {b L : List Atm}
end
end Go.Proofs.YtmjpnfapjcfejaaGreatDoor

/- Why a question has no answer; the arguments of a statement, one after the other. No condition. -/
namespace Go.Proofs.YtmjpnfapjcfejaaGreatDoor
open Go Go.RowKit VC
set_option linter.unusedSimpArgs false
set_option linter.unusedVariables false

section
variable {w : World} {sv fv hv bv : Value} {s h : List Int} {b L : List Atm}
/-- few(s), Facts(facts), Of(q), the loads taken first. -/
theorem argsG {aq : Addr} (hs : SlI w sv s) (hl : SlA w fv L) (hh : SlI w hv h) (hb : SlA w bv b) (hQ : ∀ {E}, Grow w E → ∀ (j : Nat) (v : Value), [hv, bv][j]? = some v → E.cell? (Addr.add aq j) = some v) {F : Value → Value → Value → World → Prop}
    (hk : ∀ s1 f1 h1 b1 w', SlI w' s1 (s.take 9) → SlA w' f1 (trF L) → SlI w' h1 (h.take 9) → SlA w' b1 (trB b) → Grow w w' → F s1 f1 (.agg #[h1, b1]) w') :
    ∀ m_v3 : DM w, ∃ cs_v4 : List Value, cs_v4.length = 2 ∧ (∀ (j : Nat) (v : Value), cs_v4[j]? = some v → (dr w m_v3.1).cell? (Addr.add aq j) = some v) ∧ Calls Tryz.prog 12 #[sv] (dr w m_v3.1) fun e_v6 w_v5 => ∃ t_v7 : Value, e_v6 = .returned t_v7 ∧ Grow (dr w m_v3.1) w_v5 ∧ Calls Tryz.prog 13 #[fv] w_v5 fun e_v9 w_v8 => ∃ t_v10 : Value, e_v9 = .returned t_v10 ∧ Grow w_v5 w_v8 ∧ Calls Tryz.prog 14 #[(Value.agg cs_v4.toArray)] w_v8 fun e_v12 w_v11 => ∃ t_v13 : Value, e_v12 = .returned t_v13 ∧ Grow w_v8 w_v11 ∧ F t_v7 t_v10 t_v13 w_v11 := by
  intro d
  have gd : Grow w (dr w d.1) := (Grow.refl w).dr d.1
  refine ⟨[_, _], rfl, hQ gd, (few7_c (hs.grow gd)).mono ?_⟩
  rintro e w5 ⟨s1, rfl, o1, g5⟩
  refine ⟨_, rfl, g5, (factsS_c (hl.gr (gd.trans g5))).mono ?_⟩
  rintro e w8 ⟨f1, rfl, o2, g8⟩
  refine ⟨_, rfl, g8, (ofS_c (hh.grow ((gd.trans g5).trans g8)) (hb.gr ((gd.trans g5).trans g8))).mono ?_⟩
  rintro e w11 ⟨h1, b1, rfl, o3, o4, g11⟩
  exact ⟨_, rfl, g11, hk _ _ _ _ _ ((Own.slI o1).grow (g8.trans g11)) (o2.gr g11) o3 o4 (((gd.trans g5).trans g8).trans g11)⟩
end
end Go.Proofs.YtmjpnfapjcfejaaGreatDoor

/- A result is in every repair exactly if the question with its numbers is certain. Of no program. No condition. -/
namespace Go.Proofs.YtmjpnfapjcfejaaGreatDoor
open VC
set_option linter.unusedSimpArgs false
set_option linter.unusedVariables false

/-! ## Numbers in the place of variables -/
def subT (m : List Int) (x : Int) : Int := if 0 ≤ x ∧ m.getD x.toNat 0 ≠ 0 then -(m.getD x.toNat 0) else x
def subA (m : List Int) (a : Atm) : Atm := (a.1, a.2.map (subT m))
def subB (m : List Int) (b : List Atm) : List Atm := b.map (subA m)
/-- Numbers from 1 to 9, or 0. -/
def Nine (m : List Int) : Prop := ∀ i : Nat, 0 ≤ m.getD i 0 ∧ m.getD i 0 ≤ 9
theorem tV_sub {m : List Int} (hm : Nine m) {θ θ' : Nat → Int} (h1 : ∀ i, m.getD i 0 ≠ 0 → θ' i = m.getD i 0) (h2 : ∀ i, m.getD i 0 = 0 → θ' i = θ i) (x : Int) : tV θ (subT m x) = tV θ' x := by
  unfold subT
  by_cases hx : x < 0
  · rw [if_neg (by omega)]
    unfold tV
    rw [if_pos hx, if_pos hx]
  · by_cases h0 : m.getD x.toNat 0 = 0
    · rw [if_neg fun h => h.2 h0]
      unfold tV
      rw [if_neg hx, if_neg hx, h2 _ h0]
    · rw [if_pos ⟨by omega, h0⟩]
      have := hm x.toNat
      unfold tV
      rw [if_pos (by omega), if_neg hx, h1 _ h0]
      omega
theorem im_sub {m : List Int} (hm : Nine m) {θ θ' : Nat → Int} (h1 : ∀ i, m.getD i 0 ≠ 0 → θ' i = m.getD i 0) (h2 : ∀ i, m.getD i 0 = 0 → θ' i = θ i) (a : Atm) : im θ (subA m a) = im θ' a := by
  unfold im subA
  dsimp only
  rw [List.map_map]
  exact congrArg (Prod.mk a.1) (List.map_congr_left fun x _ => tV_sub hm h1 h2 x)
theorem sat_sub {m : List Int} (hm : Nine m) {b F : List Atm} : SatL (subB m b) F ↔ ∃ θ : Nat → Int, (∀ i, m.getD i 0 ≠ 0 → θ i = m.getD i 0) ∧ ∀ a ∈ b, im θ a ∈ F := by
  constructor
  · rintro ⟨θ, h⟩
    refine ⟨fun i => if m.getD i 0 = 0 then θ i else m.getD i 0, fun i hi => if_neg hi, fun a ha => ?_⟩
    rw [← im_sub hm (θ := θ) (fun i hi => if_neg hi) (fun i hi => if_pos hi) a]
    exact h _ (List.mem_map.2 ⟨a, ha, rfl⟩)
  · rintro ⟨θ, h1, h2⟩
    refine ⟨θ, fun a' ha' => ?_⟩
    obtain ⟨a, ha, rfl⟩ := List.mem_map.1 ha'
    rw [im_sub hm h1 (fun _ _ => rfl) a]
    exact h2 a ha
/-- A choice of numbers, as a match. -/
theorem isM_of {F b : List Atm} (hF : PosF F) (hb : ∀ a ∈ b, TermA a) {θ : Nat → Int} (hθ : ∀ a ∈ b, im θ a ∈ F) : ∃ m, IsM F b m ∧ ∀ i : Nat, (i : Int) ∈ b.flatMap Prod.snd → m.getD i 0 = θ i := by
  have hg : ∀ i, i < 8 → ((List.range 8).map fun i : Nat => if (i : Int) ∈ b.flatMap Prod.snd then θ i else 0).getD i 0 = if (i : Int) ∈ b.flatMap Prod.snd then θ i else 0 := fun i hi => by
    rw [List.getD, List.getElem?_map, List.getElem?_range hi]
    rfl
  have hi8 : ∀ a ∈ b, ∀ i : Nat, (i : Int) ∈ a.2 → i < 8 := fun a ha i hi => by have := (hb a ha _ hi).2; omega
  have hpos : ∀ a ∈ b, ∀ i : Nat, (i : Int) ∈ a.2 → 1 ≤ θ i := fun a ha i hi => by
    have h1 := hF _ (hθ a ha) (tV θ (i : Int)) (List.mem_map.2 ⟨_, hi, rfl⟩)
    rwa [tV_nat] at h1
  have hin : ∀ i : Nat, (i : Int) ∈ b.flatMap Prod.snd → i < 8 := fun i hi => by
    obtain ⟨a, ha, hx⟩ := List.mem_flatMap.1 hi
    exact hi8 a ha i hx
  refine ⟨(List.range 8).map fun i : Nat => if (i : Int) ∈ b.flatMap Prod.snd then θ i else 0, ⟨by simp, fun i hi => ?_, fun a ha => ?_⟩, fun i hi => by rw [hg i (hin i hi), if_pos hi]⟩
  · rw [hg i hi]
    split
    · rename_i h
      obtain ⟨a, ha, hx⟩ := List.mem_flatMap.1 h
      have := hpos a ha i hx
      exact ⟨fun _ => h, fun _ => by omega⟩
    · rename_i h
      exact ⟨fun h2 => absurd rfl h2, fun h2 => absurd h2 h⟩
  · have : imgA ((List.range 8).map fun i : Nat => if (i : Int) ∈ b.flatMap Prod.snd then θ i else 0) a = im θ a := by
      rw [imgA_im]
      refine im_eq.2 fun i hi => ?_
      rw [hg i (hi8 a ha i hi), if_pos (List.mem_flatMap.2 ⟨a, ha, hi⟩)]
    rw [this]
    exact hθ a ha
/-- The numbers are those of the variables of a head. -/
structure HeadM (h : List Int) (m : List Int) : Prop where
  dom : ∀ x ∈ h, m.getD x.toNat 0 ≠ 0
  rng : ∀ i : Nat, m.getD i 0 ≠ 0 → (i : Int) ∈ h
theorem row_iff {F b : List Atm} {h m : List Int} (hF : PosF F) (hb : ∀ a ∈ b, TermA a) (hh : ∀ x ∈ h, 0 ≤ x ∧ x ∈ b.flatMap Prod.snd) (hM : HeadM h m) (hm : Nine m) :
    (h.map fun x => m.getD x.toNat 0) ∈ rowsOf h (allM (srtF F) b) ↔ SatL (subB m b) F := by
  rw [mem_rows hF hb, sat_sub hm]
  constructor
  · rintro ⟨n, hn, e⟩
    refine ⟨fun i => n.getD i 0, fun i hi => ?_, fun a ha => hn.hit a ha⟩
    have h1 := List.map_inj_left.1 e _ (hM.rng i hi)
    rw [Int.toNat_natCast, ofV, if_neg (by omega), Int.toNat_natCast] at h1
    exact h1.symm
  · rintro ⟨θ, h1, h2⟩
    obtain ⟨n, hn, hg⟩ := isM_of hF hb h2
    refine ⟨n, hn, List.map_inj_left.2 fun x hx => ?_⟩
    obtain ⟨h0, hxb⟩ := hh x hx
    have e : ((x.toNat : Nat) : Int) = x := Int.toNat_of_nonneg h0
    rw [ofV, if_neg (by omega), hg x.toNat (by rw [e]; exact hxb), h1 _ (hM.dom x hx)]
theorem okQ_subB {h m : List Int} {b : List Atm} (hq : okQ h b = true) (hm : Nine m) : okQ [] (subB m b) = true := by
  have h1 := okQ_len hq
  have h2 : ∀ a ∈ b, okA a = true := fun a ha => by
    simp only [okQ, Bool.and_eq_true, List.all_eq_true] at hq
    exact hq.1.2 a ha
  simp only [okQ, Bool.and_eq_true, List.all_eq_true, decide_eq_true_eq]
  refine ⟨⟨⟨⟨by simp [subB]; omega, by simp [subB]; omega⟩, by simp⟩, fun a' ha' => ?_⟩, by simp⟩
  obtain ⟨a, ha, rfl⟩ := List.mem_map.1 ha'
  have ho := okA_iff.1 (h2 a ha)
  refine okA_iff.2 ⟨ho.1, ho.2.1, by simpa [subA] using ho.2.2.1, by simpa [subA] using ho.2.2.2.1, fun x hx => ?_⟩
  obtain ⟨y, hy, rfl⟩ := List.mem_map.1 hx
  have := ho.2.2.2.2 y hy
  have := hm y.toNat
  unfold subT
  split <;> omega
theorem head_in {h : List Int} {b : List Atm} (hq : okQ h b = true) : ∀ x ∈ h, 0 ≤ x ∧ x ∈ b.flatMap Prod.snd := fun x hx => by
  have h1 := hq
  simp only [okQ, Bool.and_eq_true, List.all_eq_true] at h1
  have h2 := h1.2 x hx
  simp only [okH, Bool.and_eq_true, decide_eq_true_eq] at h2
  refine ⟨h2.1.1, ?_⟩
  have := varsB_bit.1 h2.2
  rwa [Int.toNat_of_nonneg h2.1.1] at this
theorem sure_cert {s h m : List Int} {b L : List Atm} (h0 : (askO h b L).1 = 0) (hR : okR s L = true) (hM : HeadM h m) (hm : Nine m) : (h.map fun x => m.getD x.toNat 0) ∈ sureR s h b L ↔ certB s (subB m b) L = true := by
  obtain ⟨hq, hl, -⟩ := askO_ok h0
  have hn := (okR_out hR).2.2.2.1
  rw [mem_sureR (allR_ne hn), certB, List.all_eq_true]
  refine forall_congr' fun r => forall_congr' fun hr => ?_
  rw [decide_eq_true_eq, cntM_sat (okQ_subB hq hm) hl, rowM, row_iff (okF_pos (okFs_ofM hl r)) (okB_term hq) (head_in hq) hM hm]
/-! ## The numbers, one variable after the other -/
theorem Nine.zero : Nine [0, 0, 0, 0, 0, 0, 0, 0] := fun i => by
  rcases i with _ | _ | _ | _ | _ | _ | _ | _ | i <;> simp
theorem getD_set8 {m : List Int} {k : Nat} (hk : k < m.length) (y : Int) (i : Nat) : (m.set k y).getD i 0 = if i = k then y else m.getD i 0 := by
  simp only [List.getD_eq_getElem?_getD, List.getElem?_set]
  by_cases e : k = i
  · subst e
    simp [hk]
  · rw [if_neg e, if_neg fun e2 => e e2.symm]
theorem Nine.set {m : List Int} (h : Nine m) {k : Nat} (hk : k < m.length) {y : Int} (h0 : 1 ≤ y) (h9 : y ≤ 9) : Nine (m.set k y) := fun i => by
  rw [getD_set8 hk]
  split
  · omega
  · exact h i
theorem HeadM.nil : HeadM [] [0, 0, 0, 0, 0, 0, 0, 0] := ⟨(fun x hx => by cases hx), fun i hi => absurd (by rcases i with _ | _ | _ | _ | _ | _ | _ | _ | i <;> simp) hi⟩
theorem HeadM.snoc {h m : List Int} (hM : HeadM h m) {x : Int} (h0 : 0 ≤ x) (hx : x.toNat < m.length) {y : Int} (hy : y ≠ 0) (hold : m.getD x.toNat 0 = 0 ∨ m.getD x.toNat 0 = y) : HeadM (h ++ [x]) (m.set x.toNat y) := by
  refine ⟨fun z hz => ?_, fun i hi => ?_⟩
  · rw [getD_set8 hx]
    split
    · exact hy
    · rename_i hne
      rcases List.mem_append.1 hz with hz | hz
      · exact hM.dom z hz
      · have : z = x := by simpa using hz
        subst this
        exact absurd rfl hne
  · rw [getD_set8 hx] at hi
    split at hi
    · rename_i e
      subst e
      rw [Int.toNat_of_nonneg h0]
      simp
    · exact List.mem_append_left _ (hM.rng i hi)
end Go.Proofs.YtmjpnfapjcfejaaGreatDoor

/- Of, with all that it owns; atoms turned around. No condition. -/
namespace Go.Proofs.YtmjpnfapjcfejaaGreatDoor
open Go Go.RowKit VC
set_option linter.unusedSimpArgs false
set_option linter.unusedVariables false

/-- A slice of atoms with Args that are the call's own as well, each in an array of its own. -/
structure Nest (w : World) (B : Nat) (v : Value) (ps : List (Value × Atm)) : Prop where
  own : Own w B 63 2 v ps.length (ps.flatMap fun p => [.int .i64 p.2.1, p.1])
  args : ∀ p ∈ ps, OwnI w B p.1 p.2.2
  sep : ps.Pairwise fun p q => ∀ k, p.1.ownBlock = some k → q.1.ownBlock ≠ some k
  sepv : ∀ p ∈ ps, ∀ k, p.1.ownBlock = some k → v.ownBlock ≠ some k
theorem Nest.fr {S : Nat → Prop} {w w' : World} {B : Nat} {v : Value} {ps : List (Value × Atm)} (h : Nest w B v ps) (hf : Fr S w w') (hv : ∀ k, v.ownBlock = some k → ¬ S k) (ha : ∀ p ∈ ps, ∀ k, p.1.ownBlock = some k → ¬ S k) : Nest w' B v ps :=
  ⟨Own.fr h.own hf hv, fun p hp => Own.fr (h.args p hp) hf (ha p hp), h.sep, h.sepv⟩
theorem Nest.grow {w w' : World} {B : Nat} {v : Value} {ps : List (Value × Atm)} (h : Nest w B v ps) (hf : Grow w w') : Nest w' B v ps := h.fr (Fr.of_grow (S := fun _ => False) hf) (fun _ _ => id) fun _ _ _ _ => id
theorem Nest.mono {w : World} {B B' : Nat} {v : Value} {ps : List (Value × Atm)} (h : Nest w B v ps) (hB : B' ≤ B) : Nest w B' v ps := ⟨Own.mono h.own hB, fun p hp => Own.mono (h.args p hp) hB, h.sep, h.sepv⟩
theorem Nest.ownX {w : World} {B : Nat} {v : Value} {ps : List (Value × Atm)} (h : Nest w B v ps) : OwnA w B v (ps.map Prod.snd) := by
  refine ⟨ps.map fun p => ([.int .i64 p.2.1, p.1], p.2), ?_, fun q hq => ?_, ?_⟩
  · rw [List.map_map]; rfl
  · obtain ⟨p, hp, rfl⟩ := List.mem_map.1 hq
    have ho := h.args p hp
    refine ⟨rfl, ?_, fun w' hf => ⟨p.1, rfl, (Own.fr ho hf fun k hk e => ?_).slI⟩⟩
    · intro u hu
      simp at hu
      rcases hu with rfl | rfl
      · rfl
      · exact (Own.one ho).2
    · rcases e with e | e
      · have := (Own.lt ho hk).1
        have e : k < B := e
        omega
      · exact h.sepv p hp k hk e.symm
  · rw [List.length_map, List.flatMap_map]
    exact h.own
theorem Nest.slA {w : World} {B : Nat} {v : Value} {ps : List (Value × Atm)} (h : Nest w B v ps) : SlA w v (ps.map Prod.snd) := h.ownX.slX
def repO (B : Nat) (w : World) (cs : List Value) (x : Atm × Option Nat) : Prop := ∃ v, cs = [.int .i64 x.1.1, v] ∧ v.ownBlock = x.2 ∧ OwnI w B v x.1.2
theorem elx_ownO {T : Nat → Prop} {w : World} {B B0 : Nat} {r : Int} {v out : Value} {xs : List Int} (ho : OwnI w B v xs) (hB : B0 ≤ B) (hT : ∀ b, T b → b < B) (hout : ∀ b, out.ownBlock = some b → b < B) : ElX T 2 (repO B0) out w ([.int .i64 r, v], ((r, xs), v.ownBlock)) := by
  refine ⟨rfl, ?_, fun w' hf => ⟨v, rfl, rfl, Own.mono (Own.fr ho hf fun k hk e => ?_) hB⟩⟩
  · intro u hu
    simp at hu
    rcases hu with rfl | rfl
    · rfl
    · exact (Own.one ho).2
  · have h2 := (Own.lt ho hk).1
    rcases e with e | e
    · have := hT k e; omega
    · have h1 := hout k e.symm
      omega
theorem nest_of {T : Nat → Prop} {w : World} {B : Nat} {v : Value} {xs : List (Atm × Option Nat)} (h : OwnX T 2 (repO B) w B 63 v xs) (hs : xs.Pairwise fun x y => ∀ k, x.2 = some k → y.2 ≠ some k) (hv : ∀ x ∈ xs, ∀ k, x.2 = some k → v.ownBlock ≠ some k) : ∃ ps : List (Value × Atm), Nest w B v ps ∧ ps.map Prod.snd = xs.map Prod.fst ∧ ∀ p ∈ ps, ∃ x ∈ xs, x.2 = p.1.ownBlock := by
  obtain ⟨qs, rfl, hel, hown⟩ := h.ex
  have hrep : ∀ q ∈ qs, repO B w q.1 q.2 := fun q hq => (hel q hq).rep w (Fr.refl _ _)
  have hcell : ∀ q ∈ qs, q.1 = [.int .i64 q.2.1.1, q.1.getD 1 undef] := fun q hq => by
    obtain ⟨u, h1, h2, h3⟩ := hrep q hq
    rw [h1]
    rfl
  have hblk : ∀ q ∈ qs, (q.1.getD 1 undef).ownBlock = q.2.2 ∧ OwnI w B (q.1.getD 1 undef) q.2.1.2 := fun q hq => by
    obtain ⟨u, h1, h2, h3⟩ := hrep q hq
    rw [h1]
    exact ⟨h2, h3⟩
  refine ⟨qs.map fun q => (q.1.getD 1 undef, q.2.1), ⟨?_, fun p hp => ?_, ?_, fun p hp k hk => ?_⟩, ?_, fun p hp => ?_⟩
  · rw [List.length_map, List.flatMap_map]
    rw [List.length_map] at hown
    have : (qs.flatMap fun q => [Value.int .i64 q.2.1.1, q.1.getD 1 undef]) = qs.flatMap Prod.fst := by
      clear hown hel hrep hblk hs hv h
      induction qs with
      | nil => rfl
      | cons a r ih =>
        rw [List.flatMap_cons, List.flatMap_cons, ih fun q hq => hcell q (List.mem_cons_of_mem _ hq), ← hcell a (List.mem_cons_self ..)]
    show Own w B _ 2 v qs.length (qs.flatMap fun q => [Value.int .i64 q.2.1.1, q.1.getD 1 undef])
    rw [this]
    exact hown
  · obtain ⟨q, hq, rfl⟩ := List.mem_map.1 hp
    exact (hblk q hq).2
  · rw [List.pairwise_map]
    rw [List.pairwise_map] at hs
    refine hs.imp_of_mem fun {a b} ha hb hab k hk => ?_
    show (b.1.getD 1 undef).ownBlock ≠ some k
    rw [(hblk b hb).1]
    exact hab k ((hblk a ha).1 ▸ hk)
  · obtain ⟨q, hq, rfl⟩ := List.mem_map.1 hp
    exact hv q.2 (List.mem_map.2 ⟨q, hq, rfl⟩) k ((hblk q hq).1 ▸ hk)
  · rw [List.map_map, List.map_map]; rfl
  · obtain ⟨q, hq, rfl⟩ := List.mem_map.1 hp
    exact ⟨q.2, List.mem_map.2 ⟨q, hq, rfl⟩, (hblk q hq).1.symm⟩
/-- Between the rounds of Of. -/
structure OfO (w9 : World) (C : Nat) (hv : Value) (l : List Atm) (k : Nat) (w' : World) (bv : Value) (xs : List (Atm × Option Nat)) : Prop where
  rc : RecV w' C [hv, bv]
  own : OwnX (fun b => b < w9.heap.size) 2 (repO w9.heap.size) w' w9.heap.size 63 bv xs
  eq : xs.map Prod.fst = (l.take k).map trA
  sep : xs.Pairwise fun x y => ∀ k, x.2 = some k → y.2 ≠ some k
  ub : ∀ x ∈ xs, ∀ k, x.2 = some k → (w9.heap.size ≤ k ∧ k < w'.heap.size) ∧ bv.ownBlock ≠ some k
  fr : Fr (fun i => i = C) w9 w'
theorem OfO.len {w9 : World} {C : Nat} {hv : Value} {l : List Atm} {k : Nat} {w' : World} {bv : Value} {xs : List (Atm × Option Nat)} (h : OfO w9 C hv l k w' bv xs) (hk : k ≤ l.length) : xs.length = k := by
  have := congrArg List.length h.eq
  simpa [Nat.min_eq_left hk] using this
/-- The copy of a query, all of whose arrays are its own. -/
theorem ofO_c {w : World} {hv v : Value} {h : List Int} {l : List Atm} (hh : SlI w hv h) (hs : SlA w v l) : Calls Tryz.prog 14 #[.agg #[hv, v]] w fun e w' => ∃ hv' v' ps, e = .returned (.agg #[hv', v']) ∧ OwnI w' w.heap.size hv' (h.take 9) ∧ Nest w' w.heap.size v' ps ∧ ps.map Prod.snd = trB l ∧ Grow w w' ∧ ∀ k, hv'.ownBlock = some k → v'.ownBlock ≠ some k ∧ ∀ p ∈ ps, p.1.ownBlock ≠ some k := by
  refine f14_calls _ ?_
  have hle := SlX.len_le hs
  refine ⟨_, rfl, fun w1 hw1 w3 hw3 => ?_⟩
  have g1 := alloc_grow hw1
  have g3 := alloc_grow hw3
  have s1 := alloc_size hw1
  have s3 := alloc_size hw3
  have hR := RecV.new hw3
  have hq := (RecV.new hw1).grow g3
  refine ⟨_, hq.cell (j := 0) rfl, (few_c (hh.grow (g1.trans g3))).mono ?_⟩
  rintro e w5 ⟨hv', rfl, ho5, g5⟩
  refine ⟨hv', rfl, Own.one ho5, fun w8 hw8 => RecV.init (cs := [hv', .slice none 0 0]) hw8 rfl (by
    intro u hu
    simp at hu
    rcases hu with rfl | rfl
    · exact (Own.one ho5).2
    · rfl) fun w9 g9 s9 hC => ?_⟩
  have g39 := g5.trans g9
  have g09 := (g1.trans g3).trans g39
  refine ⟨_, (hq.grow g39).cell (j := 1) rfl, SlX.ln (hs.gr g09) ?_⟩
  have hs5 := g5.size
  have hs9 := g9.size
  have fin : ∀ {k w' bv xs}, (l.take k).map trA = trB l → OfO w9 w5.heap.size hv' l k w' bv xs → ∃ cs : List Value, cs.length = 2 ∧ (∀ (j : Nat) (u : Value), cs[j]? = some u → w'.cell? (Addr.add ⟨w5.heap.size, 0, none⟩ j) = some u) ∧ ∃ cs' : Array Value, (Value.agg cs.toArray) = Value.agg cs' ∧ cs'.size = 2 ∧
      ∃ w2 : World, (storeCells ⟨w1.heap.size, 0, none⟩ cs'.toList).run Tryz.prog w' = .ok () w2 ∧ ∃ ds : List Value, ds.length = 2 ∧ (∀ (j : Nat) (u : Value), ds[j]? = some u → w2.cell? (Addr.add ⟨w1.heap.size, 0, none⟩ j) = some u) ∧
        ∃ hv2 v2 ps, Ending.returned (.agg ds.toArray) = .returned (.agg #[hv2, v2]) ∧ OwnI w2 w.heap.size hv2 (h.take 9) ∧ Nest w2 w.heap.size v2 ps ∧ ps.map Prod.snd = trB l ∧ Grow w w2 ∧ ∀ k, hv2.ownBlock = some k → v2.ownBlock ≠ some k ∧ ∀ p ∈ ps, p.1.ownBlock ≠ some k := fun {k w' bv xs} hk hI => by
    have hfr := hI.fr
    have hR' : RecV w' w1.heap.size _ := (hR.grow g39).fr hfr (by omega)
    refine ⟨[hv', bv], rfl, hI.rc.all, ?_⟩
    refine RecV.store (cs := [hv', bv]) hR' rfl (by
      intro u hu
      simp at hu
      rcases hu with rfl | rfl
      · exact (Own.one ho5).2
      · exact hI.own.one.2) fun w2 hf hr => ?_
    have hown2 := OwnX.fr hI.own hf (fun b hb => by show b < w9.heap.size; omega) fun b hb e => by have := (hI.own.lt hb).1; omega
    obtain ⟨ps, hN, hps, hblk⟩ := nest_of hown2 hI.sep fun x hx k hk => (hI.ub x hx k hk).2
    refine ⟨[hv', bv], rfl, hr.all, hv', bv, ps, rfl, ?_, Nest.mono hN (by omega), by rw [hps, hI.eq, hk], ?_, fun k hk => ⟨fun e => by have := (Own.lt ho5 hk).2; have := (hI.own.lt e).1; omega, fun p hp e => ?_⟩⟩
    · refine Own.mono (Own.fr (Own.fr (Own.grow ho5 g9) hfr fun b hb e => ?_) hf fun b hb e => ?_) (by omega)
      · have := Own.lt ho5 hb; omega
      · have := Own.lt ho5 hb; omega
    · exact (g09.fr hfr fun i hi e => by omega).fr hf fun i hi e => by omega
    · obtain ⟨x, hx, he⟩ := hblk p hp
      have h1 := (hI.ub x hx k (he.trans e)).1
      have h2 := (Own.lt ho5 hk).2
      omega
  refine ⟨fun t w' => ∃ (k : Nat) (bv : Value) (xs : List (Atm × Option Nat)), t = k ∧ k ≤ l.length ∧ k ≤ 7 ∧ OfO w9 w5.heap.size hv' l k w' bv xs, fun t _ => l.length - t.toNat, ⟨0, _, [], rfl, by omega, by omega, hC, OwnX.nil _ _ _, rfl, List.Pairwise.nil, fun x hx => by simp at hx, Fr.refl _ _⟩, ?_⟩
  rintro - t w19 ⟨k, bv, xs, rfl, hk, hk7, hI⟩
  have gI : Grow w w19 := g09.fr hI.fr fun i hi e => by omega
  refine condD (fun hlt => ?_) (fun hge => ?_)
  · have hkl : k < l.length := by omega
    refine SlX.loc (hs.gr gI) rfl hkl rfl fun w25 u g25 _ hu c0 c1 => ?_
    have hI25 : OfO w9 w5.heap.size hv' l k w25 bv xs := ⟨hI.rc.grow g25, hI.own.grow g25, hI.eq, hI.sep, fun x hx k hk => ⟨⟨(hI.ub x hx k hk).1.1, Nat.lt_of_lt_of_le (hI.ub x hx k hk).1.2 g25.size⟩, (hI.ub x hx k hk).2⟩, hI.fr.trans (Fr.of_grow g25)⟩
    have hxl := hI25.len hk
    refine condD (fun h6 => fin ?_ hI25) fun h6 m => ?_
    · have : k = 7 := by omega
      subst this; rfl
    · have gm : Grow w25 (dr w25 m) := (Grow.refl w25).dr m
      have hf9 := hI25.fr.size
      have hbl : ∀ b, bv.ownBlock = some b → b < w25.heap.size := fun b hb => (hI25.own.lt hb).2
      have leaf : ∀ {E v'}, OwnI E (dr w25 m).heap.size v' ((l[k]).2.take 9) → Grow (dr w25 m) E → ∃ t : Value, ∃ w' : World, (Instr.buildSlice 32 1 #[(0, .agg #[.int .i64 (l[k]).1, v'])]).run Tryz.prog E = .ok t w' ∧ (w'.cell? (Addr.add ⟨w5.heap.size, 0, none⟩ 1) = some bv ∧
          PApp Tryz.prog 32 32 bv t w' fun v2 w2 => oneV v2 ∧ (∃ old, w2.cell? (Addr.add ⟨w5.heap.size, 0, none⟩ 1) = some old) ∧ w2.frozen? (Addr.add ⟨w5.heap.size, 0, none⟩ 1) = false ∧ ∀ w4, w4 = w2.setCell (Addr.add ⟨w5.heap.size, 0, none⟩ 1) v2 →
            inR ((k : Int) + 1) ∧ ((∃ (k' : Nat) (bv : Value) (xs : List (Atm × Option Nat)), (k : Int) + 1 = k' ∧ k' ≤ l.length ∧ k' ≤ 7 ∧ OfO w9 w5.heap.size hv' l k' w4 bv xs) ∧ l.length - Int.toNat ((k : Int) + 1) < l.length - Int.toNat (k : Int))) := fun {E v'} ho gE => by
        have gE' := gm.trans gE
        refine bs1 el_atom (by omega) (by omega) (cs := #[.int .i64 (l[k]).1, v']) rfl E fun w' hw' => ⟨((hI25.rc.grow gE').grow (alloc_grow hw')).cell rfl, ?_⟩
        refine pappX1 el_atom (by omega) (cs := [.int .i64 (l[k]).1, v']) (y := (trA l[k], v'.ownBlock)) (hI25.own.grow gE') hw' (elx_ownO ho hf9 (fun b hb => Nat.lt_of_lt_of_le hb hf9) hbl) (by have := gE'.size; omega) (by rw [hxl]; omega) (by omega) ?_
        intro v2 w2 ho2 hf2 _ hblk
        have hCne : ∀ (k : Nat), k = w5.heap.size → ¬ some k = bv.ownBlock := fun b e e2 => by
          have := (hI25.own.lt e2.symm).1; omega
        have hC2 : RecV w2 w5.heap.size [hv', bv] := ((hI25.rc.grow gE').grow (alloc_grow hw')).fr hf2 (hCne _ rfl)
        have hsz : (dr w25 m).heap.size = w25.heap.size := rfl
        have hszE := gE'.size
        have hszw := alloc_size hw'
        have hsz2 := hf2.size
        refine ⟨ho2.one, ⟨_, hC2.cell (j := 1) rfl⟩, hC2.free 1, fun w4 hw4 => ⟨by unfold inR; omega, ⟨k + 1, v2, xs ++ [(trA l[k], v'.ownBlock)], by omega, by omega, by omega, hC2.set hw4, ?_, ?_, ?_, ?_, ?_⟩, by omega⟩⟩
        · refine OwnX.fr ho2 (RecV.set_fr hw4) (fun b hb => ?_) fun b hb e => ?_
          · show b < w9.heap.size
            omega
          · have := (ho2.lt hb).1; omega
        · rw [trF_succ hkl, List.map_append, hI25.eq]
          rfl
        · refine List.pairwise_append.2 ⟨hI25.sep, List.pairwise_singleton _ _, fun x hx y hy j hj e => ?_⟩
          rw [List.mem_singleton.1 hy] at e
          have h1 := (hI25.ub x hx j hj).1.2
          have h2 := (Own.lt ho e).1
          omega
        · have s4 : w4.heap.size = w2.heap.size := by rw [hw4]; simp
          intro x hx j hj
          rcases List.mem_append.1 hx with hx | hx
          · have h1 := hI25.ub x hx j hj
            refine ⟨⟨h1.1.1, by omega⟩, fun e => ?_⟩
            rcases hblk j e with h | h
            · exact h1.2 h.symm
            · omega
          · rw [List.mem_singleton.1 hx] at hj
            have h2 := Own.lt ho hj
            refine ⟨⟨by omega, by omega⟩, fun e => ?_⟩
            rcases hblk j e with h | h
            · have := hbl j h.symm
              omega
            · omega
        · refine Fr.trans (b := w2) (Fr.mono (S := fun i => w9.heap.size ≤ i ∨ i = w5.heap.size) ((hI25.fr.mono fun i _ e => .inr e).trans ((Fr.of_grow (gE'.trans (alloc_grow hw'))).trans (hf2.mono fun i _ e => .inl ?_))) fun i hi e => ?_) (RecV.set_fr hw4)
          · exact (hI25.own.lt e.symm).1
          · rcases e with e | e
            · omega
            · exact e
      have call : ∀ {Q : Ending → World → Prop}, (∀ v' E, OwnI E (dr w25 m).heap.size v' ((l[k]).2.take 9) → Grow (dr w25 m) E → Q (.returned v') E) → Calls Tryz.prog 39 #[u] (dr w25 m) Q := fun hq => (few_c (hu.dr m)).mono (by
        rintro e E ⟨v', rfl, ho, gE⟩
        exact hq v' E ho gE)
      have cC : ∀ {E}, Grow (dr w25 m) E → E.cell? (Addr.add ⟨w5.heap.size, 0, none⟩ 1) = some bv := fun g => (hI25.rc.grow (gm.trans g)).cell (j := 1) rfl
      have k0 : ∀ {E}, Grow (dr w25 m) E → E.cell? (Addr.add ⟨w19.heap.size, 0, none⟩ 0) = some (.int .i64 (l[k]).1) := fun g => (gm.trans g).cell c0
      have k1 : ∀ {E}, Grow (dr w25 m) E → E.cell? (Addr.add ⟨w19.heap.size, 0, none⟩ 1) = some u := fun g => (gm.trans g).cell c1
      repeat' first
        | exact Own.one ‹_›
        | refine And.intro ?_ ?_
        | refine ⟨_, cC (Grow.refl _), ?_⟩
        | refine ⟨_, k0 (Grow.refl _), ?_⟩
        | refine ⟨_, k1 (Grow.refl _), ?_⟩
        | refine ⟨_, cC ‹Grow (dr w25 m.1) _›, ?_⟩
        | refine ⟨_, k0 ‹Grow (dr w25 m.1) _›, ?_⟩
        | (refine call ?_; intro v' E ho gE; refine ⟨v', rfl, ?_⟩)
        | (obtain ⟨t, w', a, b, c⟩ := leaf ‹_› ‹Grow (dr w25 m.1) _›; exact ⟨t, w', a, c⟩)
        | (obtain ⟨t, w', a, b, c⟩ := leaf ‹_› ‹Grow (dr w25 m.1) _›; exact ⟨t, w', a, _, b, c⟩)
  · have hkl : k = l.length := by omega
    subst hkl
    exact fin (by unfold trB; rw [List.take_length, List.take_of_length_le hk7]) hI
end Go.Proofs.YtmjpnfapjcfejaaGreatDoor

/- Arrays of one's own, written in place. No condition. -/
namespace Go.Proofs.YtmjpnfapjcfejaaGreatDoor
open Go Go.RowKit VC
set_option linter.unusedSimpArgs false
set_option linter.unusedVariables false

theorem ownPut {w : World} {B : Nat} {u : Value} {ys : List Int} (h : OwnI w B u ys) {i : Nat} {j : Int} (hj : j = (i : Int)) (hi : i < ys.length) {z : Int} {K : World → Prop} (hk : ∀ w', OwnI w' B u (ys.set i z) → Fr (fun b => u.ownBlock = some b) w w' → K w') :
    ∃ (a : Addr) (n c : Nat), u = Value.slice (some a) n c ∧ ((0 : Int) ≤ j ∧ j < (n : Int)) ∧ (∃ old, w.cell? (a.add (Int.toNat j * 1)) = some old) ∧ w.frozen? (a.add (Int.toNat j * 1)) = false ∧ ∀ w', w' = w.setCell (a.add (Int.toNat j * 1)) (.int .i64 z) → K w' := by
  subst hj
  have h2 := h.2
  rcases h2 with ⟨h1, h0⟩ | ⟨g, cap, cur, rfl, -⟩
  · omega
  · have e : Addr.add ⟨g, 0, none⟩ (Int.toNat (i : Int) * 1) = ⟨g, i, none⟩ := by rw [Int.toNat_natCast, Nat.mul_one, Addr.add0]
    refine ⟨_, _, _, rfl, ⟨by omega, by omega⟩, ?_⟩
    rw [e]
    refine ⟨(Own.wr h hi).1, (Own.wr h hi).2, fun w' hw' => hk w' ?_ ((set_fr hw').mono fun b _ hb => ?_)⟩
    · have h9 := Own.set h hi hw'
      have e : (ys.map VC.encI).set i (Value.int .i64 z) = (ys.set i z).map VC.encI := by
        rw [show Value.int .i64 z = VC.encI z from rfl, ← List.map_set]
      rw [e] at h9
      have : (ys.set i z).length = ys.length := List.length_set
      unfold OwnI
      rw [this]
      exact h9
    · have hb : b = g := hb
      rw [hb]
      rfl
theorem Nest.loc {P : Program} {w : World} {B : Nat} {v : Value} {ps : List (Value × Atm)} (h : Nest w B v ps) {i : Nat} {j : Int} (hj : j = (i : Int)) (hi : i < ps.length) {zs : Array Value} (hz : zs.size = 2) {t : TypeId} {K : World → Prop}
    (hk : ∀ w2, Grow w w2 → w.heap.size < w2.heap.size → w2.cell? (Addr.add ⟨w.heap.size, 0, none⟩ 0) = some (.int .i64 ps[i].2.1) → w2.cell? (Addr.add ⟨w.heap.size, 0, none⟩ 1) = some ps[i].1 → K w2) :
    ∃ (a : Addr) (m c : Nat), v = .slice (some a) m c ∧ ((0 : Int) ≤ j ∧ j < (m : Int)) ∧ ∃ cs : List Value, cs.length = 2 ∧ (∀ t u, cs[t]? = some u → w.cell? (Addr.add (a.add (Int.toNat j * 2)) t) = some u) ∧
      ∀ w1, w1 = w.alloc (.cells zs t) → ∃ cs' : Array Value, (Value.agg cs.toArray) = Value.agg cs' ∧ cs'.size = 2 ∧ ∃ w2 : World, (storeCells ⟨w.heap.size, 0, none⟩ cs'.toList).run P w1 = .ok () w2 ∧ K w2 := by
  have hs : SlR (fun p : Value × Atm => [.int .i64 p.2.1, p.1]) w v ps := h.own.slC
  refine SlR.rd hs (fun _ => rfl) hj hi fun w1 hw1 => ?_
  have := setR (P := P) (cs := [.int .i64 ps[i].2.1, ps[i].1]) hw1 (by rw [hz]; rfl) (by
    intro y hy
    simp at hy
    rcases hy with rfl | rfl
    · rfl
    · exact (Own.one (h.args _ (List.getElem_mem hi))).2) (K := K) fun w2 hg hs hc => hk w2 hg hs (hc 0 _ rfl) (hc 1 _ rfl)
  rw [hz] at this
  exact this
theorem Nest.put {w w' : World} {B : Nat} {v : Value} {ps : List (Value × Atm)} (h : Nest w B v ps) {i : Nat} (hi : i < ps.length) {ys : List Int} (ho : OwnI w' B ps[i].1 ys) (hf : Fr (fun b => ps[i].1.ownBlock = some b) w w') : Nest w' B v (ps.set i (ps[i].1, (ps[i].2.1, ys))) := by
  have ef : (ps.set i (ps[i].1, (ps[i].2.1, ys))).map Prod.fst = ps.map Prod.fst := by
    rw [List.map_set]
    apply List.ext_getElem (by simp)
    intro j h1 h2
    rw [List.getElem_set]
    split
    · rename_i e
      subst e
      simp
    · rfl
  refine ⟨?_, fun p hp => ?_, ?_, fun p hp k hk => ?_⟩
  · have e : (ps.set i (ps[i].1, (ps[i].2.1, ys))).flatMap (fun p => [Value.int .i64 p.2.1, p.1]) = ps.flatMap fun p => [Value.int .i64 p.2.1, p.1] := by
      rw [List.flatMap_def, List.flatMap_def, List.map_set]
      congr 1
      apply List.ext_getElem (by simp)
      intro j h1 h2
      rw [List.getElem_set]
      split
      · rename_i e
        subst e
        simp
      · rfl
    rw [e, List.length_set]
    exact Own.fr h.own hf fun k hk hk2 => h.sepv _ (List.getElem_mem hi) k hk2 hk
  · obtain ⟨j, hj, rfl⟩ := List.getElem_of_mem hp
    rw [List.getElem_set]
    split
    · exact ho
    · rename_i hne
      have hj' : j < ps.length := by simpa using hj
      refine Own.fr (h.args _ (List.getElem_mem hj')) hf fun k hk hk2 => ?_
      rcases Nat.lt_or_gt_of_ne hne with hlt | hlt
      · exact List.pairwise_iff_getElem.1 h.sep i j hi hj' hlt k hk2 hk
      · exact List.pairwise_iff_getElem.1 h.sep j i hj' hi hlt k hk hk2
  · have : (ps.map Prod.fst).Pairwise (fun u u' : Value => ∀ k, u.ownBlock = some k → u'.ownBlock ≠ some k) := List.pairwise_map.2 h.sep
    rw [← ef] at this
    exact List.pairwise_map.1 this
  · have : p.1 ∈ ps.map Prod.fst := ef ▸ List.mem_map.2 ⟨p, hp, rfl⟩
    obtain ⟨p0, hp0, e⟩ := List.mem_map.1 this
    exact h.sepv p0 hp0 k (e ▸ hk)
end Go.Proofs.YtmjpnfapjcfejaaGreatDoor
