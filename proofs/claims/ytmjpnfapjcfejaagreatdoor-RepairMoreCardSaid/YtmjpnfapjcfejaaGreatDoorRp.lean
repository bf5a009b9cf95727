/- Contracts: slices.DeleteFunc of rows of the call's own; Sure, by the program. The table of bits is laid (Tab). -/
import Derived.Test.YtmjpnfapjcfejaaGreatDoorMs
import Derived.Test.YtmjpnfapjcfejaaGreatDoorRj
import Derived.Test.YtmjpnfapjcfejaaGreatDoorGsu
namespace Go.Proofs.YtmjpnfapjcfejaaGreatDoor
open Go Go.RowKit VC
set_option linter.unusedSimpArgs false
set_option linter.unusedVariables false

/-- A function that is asked of each row, while the slice's own cells turn. -/
def AsksX (T : Nat → Prop) (w : World) (v f : Value) (L : List (List Int)) (p : List Int → Bool) : Prop :=
  ∃ g fst cap, f = .func (.func g) fst cap ∧ callOK g = true ∧ ∀ x ∈ L, ∀ w' u, FrT T v w w' → SlI w' u x → Calls Tryz.prog g (fst ++ #[u] ++ cap) w' (Ret w' (.bool (p x)))
structure DlL (T : Nat → Prop) (w : World) (B g n cap : Nat) (l : List (List Int)) (p : List Int → Bool) (ps : List (List Value × List Int)) (a b : Nat) (w' : World) (qs : List (List Value × List Int)) : Prop where
  len : qs.length = n
  kept : (qs.take a).map Prod.snd = (l.take b).filter fun x => !p x
  rest : ∀ i, b ≤ i → qs[i]? = ps[i]?
  el : ∀ q ∈ qs, ElX T 1 repI (.slice (some ⟨g, 0, none⟩) n cap) w' q
  own : Own w' B 22 1 (.slice (some ⟨g, 0, none⟩) n cap) n (qs.flatMap Prod.fst)
  fr : Fr (fun b => b = g) w w'
theorem deleteL_c {T : Nat → Prop} {w : World} {B : Nat} {v f : Value} {l : List (List Int)} {p : List Int → Bool} (ho : OwnX T 1 repI w B 22 v l) (hf : AsksX T w v f l p) : Calls Tryz.prog 49 #[v, f] w fun e w' => ∃ v', e = .returned v' ∧ OwnX T 1 repI w' B 22 v' (l.filter fun x => !p x) ∧ FrO v w w' ∧ (∀ b, v'.ownBlock = some b → v.ownBlock = some b) := by
  refine f49_calls _ _ ?_
  obtain ⟨fg, fst, fc, rfl, hok, hcall⟩ := hf
  have hle := SlX.len_le ho.slX
  refine (indexL_c (p := p) ho.slX ⟨fg, fst, fc, rfl, hok, fun x hx w' u gg hu => hcall x hx w' u (Fr.of_grow gg) hu⟩).mono ?_
  rintro e w1 ⟨rfl, g1⟩
  refine ⟨_, rfl, condD (fun h1 => ⟨v, rfl, ?_, Fr.of_grow g1, fun b hb => hb⟩) fun hne => ?_⟩
  · have : (l.filter fun x => !p x) = l := by
      refine List.filter_eq_self.2 fun x hx => ?_
      have h2 := idxOf_any p l
      rw [h1] at h2
      have h3 : l.any p = false := by rw [← h2]; rfl
      have := List.any_eq_false.1 h3 x hx
      simpa using this
    rw [this]
    exact ho.grow g1
  -- the first that goes
  have hfi : ∃ (k : Nat) (hk : k < l.length), idxOf p l = k ∧ p l[k] = true ∧ ∀ j (hj : j < l.length), j < k → p l[j] = false := by
    unfold idxOf at hne ⊢
    cases hx : l.findIdx? p with
    | none => rw [hx] at hne; exact absurd rfl hne
    | some k =>
      obtain ⟨hk, h2, h3⟩ := List.findIdx?_eq_some_iff_getElem.1 hx
      exact ⟨k, hk, rfl, h2, fun j hj hlt => by simpa using h3 j hlt⟩
  obtain ⟨k, hk, ek, hpk, hbef⟩ := hfi
  rw [ek]
  obtain ⟨ps, hps, hel, hown⟩ := ho.ex
  have hpl : ps.length = l.length := by rw [← hps, List.length_map]
  have hv : ∃ g cap, v = .slice (some ⟨g, 0, none⟩) l.length cap ∧ l.length ≤ cap ∧ g < w.heap.size := by
    rcases hown.2 with ⟨_, h0⟩ | ⟨g, cap, cur, rfl, hb, hgg, hnc, _⟩
    · omega
    · exact ⟨g, cap, rfl, hnc, (Array.getElem?_eq_some_iff.1 hgg).1⟩
  obtain ⟨g, cap, rfl, hcap, hgw⟩ := hv
  have idx : ∀ i (hi : i < l.length), (ps[i]'(by omega)).2 = l[i] := fun i hi => by
    simp only [← hps, List.getElem_map]
  have one : ∀ {w1 : World} {p : List Value × List Int}, ElX T 1 repI (.slice (some ⟨g, 0, none⟩) l.length cap) w1 p → ∃ a, p.1 = [a] ∧ SlI w1 a p.2 := fun {w1 p} hp => by
    obtain ⟨u, h1, hu⟩ := hp.rep w1 (Fr.refl _ _)
    exact ⟨u, h1, hu⟩
  refine ⟨by unfold inR; omega, fun i j w' => ∃ (a b : Nat) (qs : List (List Value × List Int)), i = a ∧ j = b ∧ a + 1 ≤ b ∧ b ≤ l.length ∧ DlL T w B g l.length cap l p ps a b w' qs, fun _ j _ => l.length - j.toNat, ⟨k, k + 1, ps, rfl, rfl, by omega, by omega, ⟨hpl, ?_, fun _ _ => rfl, fun q hq => (hel q hq).grow g1, Own.grow hown g1, Fr.of_grow g1⟩⟩, ?_⟩
  · rw [List.map_take, hps, List.take_succ_eq_append_getElem hk, List.filter_append, List.filter_cons, hpk]
    have : ((l.take k).filter fun x => !p x) = l.take k := List.filter_eq_self.2 fun x hx => by
      obtain ⟨j, hj, rfl⟩ := List.getElem_of_mem hx
      rw [List.length_take] at hj
      rw [List.getElem_take, hbef j (by omega) (by omega)]; rfl
    rw [this]
    simp
  rintro - - - w9 ⟨a, b, qs, rfl, rfl, hab, hbl, hI⟩
  have hql : ∀ q ∈ qs, q.1.length = 1 := fun q hq => (hI.el q hq).len
  have hqn := hI.len
  refine ⟨_, _, _, rfl, condD (fun hlt => ?_) fun hge => ?_⟩
  · have hb2 : b < l.length := by omega
    have qe : qs[b]'(by omega) = ps[b]'(by omega) := by
      have := hI.rest b (Nat.le_refl _)
      rw [List.getElem?_eq_getElem (by omega), List.getElem?_eq_getElem (by omega)] at this
      exact Option.some.inj this
    have c1 : (qs[b]'(by omega)).2 = l[b] := by rw [qe, idx]
    obtain ⟨u, ea, hu⟩ := one (hI.el _ (List.getElem_mem (show b < qs.length by omega)))
    rw [c1] at hu
    have atb : ∀ (x : Nat), Addr.add ⟨g, 0, none⟩ (x * 1) = ⟨g, x * 1 + 0, none⟩ := fun x => by rw [Addr.add0]; rfl
    refine ⟨_, _, _, rfl, ⟨by omega, by omega⟩, u, ?_, fg, fst, fc, rfl, hok, (hcall l[b] (List.getElem_mem hb2) w9 u (hI.fr.mono fun b' _ e => .inr (by rw [e]; rfl)) hu).mono ?_⟩
    · rw [Int.toNat_natCast, atb]; exact rec_al hql hI.own (by omega) 0 u (by rw [ea]; rfl)
    rintro e w17 ⟨rfl, g17⟩
    have hI17 : DlL T w B g l.length cap l p ps a b w17 qs := ⟨hqn, hI.kept, hI.rest, fun q hq => (hI.el q hq).grow g17, Own.grow hI.own g17, hI.fr.trans (Fr.of_grow g17)⟩
    have hst : ∀ z, p l[b] = z → (l.take (b + 1)).filter (fun x => !p x) = (l.take b).filter (fun x => !p x) ++ (if z then [] else [l[b]]) := fun z hz => by
      rw [List.take_succ_eq_append_getElem hb2, List.filter_append, List.filter_cons, hz]
      cases z <;> simp
    refine ⟨_, rfl, condP_i (fun hn => ?_) fun hp => ?_⟩
    · have hn : p l[b] = false := by simpa using hn
      have hst := hst false hn
      rw [if_neg (by decide)] at hst
      have aA : Addr.add ⟨g, 0, none⟩ (Int.toNat (a : Int) * 1) = ⟨g, a, none⟩ := by rw [Int.toNat_natCast, Addr.add0]; simp
      refine ⟨_, _, _, rfl, ⟨by omega, by omega⟩, hu.one, ?_⟩
      rw [aA]
      refine ⟨(Own.wr hI17.own (show a < l.length by omega)).1, (Own.wr hI17.own (show a < l.length by omega)).2, fun w26 hw26 => ?_⟩
      have hf26 : Fr (fun k => k = g) w17 w26 := set_fr hw26
      have ho26 := Own.set hI17.own (show a < l.length by omega) hw26
      have hel17 := hI17.el _ (List.getElem_mem (show b < qs.length by omega))
      refine ⟨by unfold inR; omega, by unfold inR; omega, ⟨a + 1, b + 1, qs.set a (qs[b]'(by omega)), by omega, by omega, by omega, by omega, ?_⟩, by dsimp only; omega⟩
      refine ⟨by simpa using hqn, ?_, fun j hj => ?_, fun q hq => ?_, ?_, hI17.fr.trans hf26⟩
      · rw [hst, ← hI.kept, List.take_succ_eq_append_getElem (by simp; omega), List.map_append]
        congr 1
        · rw [List.take_set_of_le (by omega)]
        · simp [c1]
      · rw [List.getElem?_set_ne (by omega)]
        exact hI.rest j (by omega)
      · rcases List.mem_or_eq_of_mem_set hq with hq | rfl
        · exact (hI17.el q hq).later (hf26.mono fun b' _ e => .inr (by rw [e]; rfl))
        · exact hel17.later (hf26.mono fun b' _ e => .inr (by rw [e]; rfl))
      · rw [flat_set1 hql (by omega) ea]; exact ho26
    · have hp : p l[b] = true := by simpa using hp
      have hst := hst true hp
      rw [if_pos rfl, List.append_nil] at hst
      exact ⟨by unfold inR; omega, ⟨a, b + 1, qs, rfl, by omega, by omega, by omega, ⟨hqn, by rw [hst]; exact hI.kept, fun i hi => hI.rest i (by omega), hI17.el, hI17.own, hI17.fr⟩⟩, by dsimp only; omega⟩
  · have hbl2 : b = l.length := by omega
    have hsb2 : sbR (some (Value.int .i64 (a : Int))) none none l.length cap a l.length cap := ⟨rfl, rfl, rfl, by simp, by omega, by omega, by omega⟩
    have hca : ¬ cap = a := by omega
    have hfl : (qs.flatMap Prod.fst).length = qs.length * 1 := flat_len' hql
    have hzl : (Builtin.zeroCells (Value.slice none 0 0).cells (l.length - a)).toList.length = (l.length - a) * 1 := by
      rw [Array.length_toList, size_zeroCells]; rfl
    obtain ⟨w74, hr, hf74, ho74⟩ := Own.put (P := Tryz.prog) (o := a * 1) (vs := (Builtin.zeroCells (Value.slice none 0 0).cells (l.length - a)).toList) hI.own (by rw [hzl]; omega) (zeroCells_mem (by decide) (by
      intro u hu
      simp [Value.cells] at hu
      subst hu; rfl))
    refine ⟨_, _, _, rfl, a, l.length, cap, hsb2, w74, ?_, ?_⟩
    · rw [if_neg hca]
      refine clear_run el_row (by omega) ?_
      show (storeCells (Addr.add ⟨g, 0, none⟩ (a * 1)) _).run _ _ = _
      rw [Addr.add0]; exact hr
    · refine ⟨_, _, _, rfl, 0, a, cap, ⟨rfl, rfl, rfl, by simp, by omega, by omega, by omega⟩, ?_⟩
      have hcc : ¬ cap = 0 := by omega
      have hcut := Own.cut ho74 (k := a) (by omega)
      have e5 : ((qs.flatMap Prod.fst).take (a * 1) ++ (Builtin.zeroCells (Value.slice none 0 0).cells (l.length - a)).toList ++ (qs.flatMap Prod.fst).drop (a * 1 + (Builtin.zeroCells (Value.slice none 0 0).cells (l.length - a)).toList.length)).take (a * 1) = (qs.take a).flatMap Prod.fst := by
        rw [List.append_assoc, List.take_append_of_le_length (by rw [List.length_take, hfl]; omega), List.take_take, Nat.min_self]
        exact (flat_take hql).symm
      rw [e5] at hcut
      have hkl : (l.filter fun x => !p x).length = a := by
        have := congrArg List.length hI.kept
        rw [hbl2, List.take_length] at this
        rw [← this]; simp; omega
      refine ⟨_, rfl, ⟨qs.take a, ?_, fun q hq => ?_, ?_⟩, hI.fr.trans hf74 |>.mono (fun b' _ e => by rw [e]; rfl), fun b' hb' => ?_⟩
      · rw [hI.kept, hbl2, List.take_length]
      · have hq' := hI.el q (List.mem_of_mem_take hq)
        refine ⟨hq'.len, hq'.one, fun w2 hf2 => hq'.rep w2 ((hf74.mono fun b' _ e => .inr (by rw [e]; rfl)).trans (hf2.mono fun b' _ e => ?_))⟩
        rcases e with e | e
        · exact .inl e
        · refine .inr ?_
          rw [if_neg hcc] at e
          simpa [Value.ownBlock, add_block] using e
      · rw [hkl, if_neg hcc]
        simpa [Addr.add0] using hcut
      · rw [if_neg hcc] at hb'
        simpa [Value.ownBlock, add_block] using hb'
/-! ## Sure -/
theorem sure2_c {w : World} {x y : Value} {xs ys : List Int} {p : Addr} (hc : w.cell? p = some x) (hx : SlI w x xs) (hy : SlI w y ys) : Calls Tryz.prog 51 #[y, .pointer (some p)] w (Ret w (.bool (decide (xs = ys)))) := by
  refine f51_calls _ _ ⟨_, hc, (equal_c hx hy).mono ?_⟩
  rintro e w2 ⟨rfl, g2⟩
  exact ⟨_, rfl, rfl, g2⟩
theorem sure1_c {w : World} {u lv : Value} {xs : List Int} {L : List (List Int)} {p : Addr} (hu : SlI w u xs) (hc : w.cell? p = some lv) (hl : SlL w lv L) : Calls Tryz.prog 50 #[u, .pointer (some p)] w (Ret w (.bool (!decide (xs ∈ L)))) := by
  refine f50_calls _ _ ⟨hu.one, fun w1 hw1 => ⟨_, (alloc_grow hw1).cell hc, ?_⟩⟩
  have g1 := alloc_grow hw1
  refine (containsL_c (p := fun y => decide (xs = y)) (hl.gr g1) ⟨51, #[], _, rfl, rfl, fun y hy w' v gg hv => ?_⟩).mono ?_
  · rw [app1]
    exact sure2_c (gg.cell (alloc_cell0 hw1)) (hu.grow (g1.trans gg)) hv
  · rintro e w3 ⟨rfl, g3⟩
    refine ⟨_, rfl, ?_, g1.trans g3⟩
    have : L.any (fun y => decide (xs = y)) = decide (xs ∈ L) := by
      rw [Bool.eq_iff_iff, List.any_eq_true, decide_eq_true_eq]
      constructor
      · rintro ⟨y, hy, h⟩
        rw [decide_eq_true_eq] at h
        exact h ▸ hy
      · exact fun h => ⟨xs, h, decide_eq_true rfl⟩
    rw [this]
/-- What the first k repairs have in common. -/
def sureK (h : List Int) (b L : List Atm) (R : List Nat) (k : Nat) : List (List Int) := if k = 0 then [] else (rowM h b L (R.getD 0 0)).filter fun x => (R.take k).all fun m => decide (x ∈ rowM h b L m)
def sureR (s h : List Int) (b L : List Atm) : List (List Int) := sureK h b L (allR (klS s) L) (allR (klS s) L).length
theorem sureK_one {h : List Int} {b L : List Atm} {R : List Nat} (hR : 0 < R.length) : sureK h b L R 1 = rowM h b L R[0] := by
  have e : R.getD 0 0 = R[0] := by simp [List.getD, hR]
  have e2 : R.take 1 = [R[0]] := by rw [List.take_succ_eq_append_getElem hR]; simp
  rw [sureK, if_neg (by decide), e, e2]
  refine List.filter_eq_self.2 fun x hx => ?_
  simp [hx]
theorem sureK_succ {h : List Int} {b L : List Atm} {R : List Nat} {k : Nat} (hk0 : k ≠ 0) (hk : k < R.length) : sureK h b L R (k + 1) = (sureK h b L R k).filter fun x => !!decide (x ∈ rowM h b L R[k]) := by
  rw [sureK, sureK, if_neg (by omega), if_neg hk0, List.filter_filter]
  refine List.filter_congr fun x _ => ?_
  rw [List.take_succ_eq_append_getElem hk, List.all_append, Bool.not_not]
  simp [Bool.and_comm]
section
variable {w : World} {sv fv hv bv : Value} {s h : List Int} {b L : List Atm}
theorem rowM_len (h0 : (askO h b L).1 = 0) (m : Nat) : (rowM h b L m).length ≤ 20000 := by
  unfold rowM rowsOf
  have h1 := len_srt (key := id) ((allM (srtF (ofM L m)) b).map fun n => h.map (ofV n))
  rw [List.length_map] at h1
  have h2 := cntM_le h0 m
  unfold cntM at h2
  exact Nat.le_trans h1 h2
theorem sure_c (hs : SlI w sv s) (hl : SlA w fv L) (hh : SlI w hv h) (hb : SlA w bv b) (hT : Tab w) :
    Calls Tryz.prog 21 #[sv, fv, .agg #[hv, bv]] w fun e w' => ∃ v, e = .returned (.tuple #[v, .int .i64 (askE false s h b L)]) ∧ SlL w' v (if askE false s h b L = 0 then sureR s h b L else []) ∧ Grow w w' := by
  refine f21_calls _ _ _ ⟨_, rfl, fun w1 hw1 => ?_⟩
  have g1 := alloc_grow hw1
  have hQ := RecV.new hw1
  refine ⟨[_, _], rfl, hQ.all, (ask_c (hs.grow g1) (hl.gr g1) (hh.grow g1) (hb.gr g1)).mono ?_⟩
  rintro e w4 ⟨x, y, rfl, hx, hy, hxy, g4⟩
  refine ⟨_, _, rfl, fun w8 hw8 => RecV.init (cs := [x, y]) hw8 rfl (by simp [hx.2, hy.2]) fun w9 g9 s9 hB => ?_⟩
  have g09 := (g1.trans g4).trans g9
  refine condP_i (fun hne => ?_) fun heq => ?_
  · have hne : ¬ askE false s h b L = 0 := by simpa using hne
    exact ⟨_, rfl, by rw [if_neg hne]; exact SlX.nil _, g09⟩
  have h0 : askE false s h b L = 0 := by simpa using heq
  obtain ⟨rfl, rfl⟩ := hxy h0
  have hR : okR s L = true := by
    cases hr : okR s L with
    | true => rfl
    | false => rw [askE, hr] at h0; simp at h0
  have hO : (askO h b L).1 = 0 := by
    unfold askE at h0
    split at h0
    · exact h0
    · cases h0
  have h12 := (okR_out hR).2.1
  refine ⟨[_, _], rfl, hB.all, (repairs_c (hs.grow g09) (hl.gr g09) hR).mono ?_⟩
  rintro e w12 ⟨rv, rfl, hrv, g12⟩
  have g012 := g09.trans g12
  refine ⟨_, rfl, hrv.ln ?_⟩
  rw [natI_len, if_pos h0]
  obtain ⟨R, hRR⟩ : ∃ R, R = allR (klS s) L := ⟨_, rfl⟩
  have hRl : R.length ≤ 4096 := by rw [hRR]; exact allR_len (klS s) L h12
  rw [← hRR] at hrv ⊢
  refine ⟨fun out t w' => ∃ k : Nat, t = k ∧ k ≤ R.length ∧ OwnX (fun _ => False) 1 repI w' w12.heap.size 22 out (sureK h b L R k) ∧ Grow w12 w', fun _ t _ => R.length - t.toNat, ⟨0, rfl, by omega, OwnX.nil _ _ _, Grow.refl _⟩, ?_⟩
  rintro - out t w23 ⟨k, rfl, hk, hout, g23⟩
  have g1223 := g23
  refine condD (fun hlt => ?_) fun hge => ?_
  · have hkl : k < R.length := by omega
    refine (hrv.grow g23).rd rfl (by rw [natI_len]; exact hkl) ?_
    rw [natI_get hkl]
    intro d
    have gd : Grow w23 (dr w23 d.1) := (Grow.refl w23).dr d.1
    have hm : R[k] < 2 ^ L.length := by
      have : R[k] ∈ allR (klS s) L := by rw [← hRR]; exact List.getElem_mem hkl
      exact (mem_allR.1 this).1
    have gD := (g012.trans g23).trans gd
    have hBD := ((hB.grow g12).grow g23).grow gd
    have hQD := (((hQ.grow (g4.trans g9)).grow g12).grow g23).grow gd
    have hs23 := g23.size
    have leaf : ∀ {w39 X lv}, Grow w23 w39 → OwnX (fun b => b < w23.heap.size) 1 repI w39 w23.heap.size 22 lv (rowM h b L R[k]) → w39.cell? ⟨X, 0, none⟩ = some lv → w23.heap.size ≤ X → condP (decide ((k : Int) = (0 : Int))) (∃ t_v40 : Value, w39.cell? ⟨X, 0, none⟩ = some t_v40 ∧ inR ((k : Int) + 1) ∧ ((∃ k' : Nat, (k : Int) + 1 = k' ∧ k' ≤ R.length ∧ OwnX (fun _ => False) 1 repI w39 w12.heap.size 22 t_v40 (sureK h b L R k') ∧ Grow w12 w39) ∧ R.length - Int.toNat ((k : Int) + 1) < R.length - Int.toNat (k : Int)))
        (Calls Tryz.prog 49 #[out, (Value.func (Fn.func 50) #[] #[(Value.pointer (some ⟨X, 0, none⟩))])] w39 fun e_v42 w_v41 => ∃ t_v43 : Value, e_v42 = .returned t_v43 ∧ inR ((k : Int) + 1) ∧ ((∃ k' : Nat, (k : Int) + 1 = k' ∧ k' ≤ R.length ∧ OwnX (fun _ => False) 1 repI w_v41 w12.heap.size 22 t_v43 (sureK h b L R k') ∧ Grow w12 w_v41) ∧ R.length - Int.toNat ((k : Int) + 1) < R.length - Int.toNat (k : Int))) := fun {w39 X lv} g39 hlv hc hX => by
      refine condD (fun hz => ?_) fun hz => ?_
      · have hz : k = 0 := by omega
        subst hz
        refine ⟨lv, hc, by unfold inR; omega, ⟨1, rfl, by omega, ?_, g23.trans g39⟩, by omega⟩
        rw [sureK_one hkl]
        exact (OwnX.base hlv hs23).weaken fun _ h => h.elim
      · have hz : k ≠ 0 := by omega
        have hout39 := hout.grow g39
        refine (deleteL_c (p := fun x => !decide (x ∈ rowM h b L R[k])) hout39 ⟨50, #[], _, rfl, rfl, fun x hx w' u hfr hu => ?_⟩).mono ?_
        · rw [app1]
          have hob : ∀ bb, out.ownBlock = some bb → bb < w23.heap.size := fun bb hbb => (hout.lt hbb).2
          have hfr2 : Fr (fun q => some q = out.ownBlock) w39 w' := hfr.mono fun q _ e => e.elim (fun h => h.elim) id
          refine sure1_c hu (hfr2.cell hc fun e => ?_) ?_
          · have := hob _ e.symm
            dsimp only at this
            omega
          · exact OwnX.slX (OwnX.fr hlv hfr2 (fun bb hbb => hob bb hbb.symm) fun bb hbb e => by
              have h1 := (hlv.lt hbb).1
              have h2 := hob bb e.symm
              omega)
        · rintro e w41 ⟨v', rfl, hv', hf41, _⟩
          refine ⟨_, rfl, by unfold inR; omega, ⟨k + 1, by omega, by omega, ?_, (g23.trans g39).fr hf41 fun i hi e => ?_⟩, by omega⟩
          · rw [sureK_succ hz hkl]
            exact hv'
          · have := (hout.lt e.symm).1
            omega
    have ch : ∀ {E} {Q : Ending → World → Prop}, Grow (dr w23 d.1) E → (∀ v w', Grow E w' → SlA w' v (ofM L R[k]) → Q (.returned v) w') → Calls Tryz.prog 48 #[.agg #[x, y], .int .i64 (R[k] : Int)] E Q := fun g0 hq => (chosen_c (hl.gr (gD.trans g0)) h12 hm (hT.grow (gD.trans g0))).mono (by
      rintro e w' ⟨v, rfl, hv, g⟩
      exact hq v w' g hv)
    have rs : ∀ {E v} {Q : Ending → World → Prop}, Grow (dr w23 d.1) E → SlA E v (ofM L R[k]) → (∀ lv w', Grow E w' → OwnRs E.heap.size w' lv (rowM h b L R[k]) → Q (.returned (.tuple #[lv, .int .i64 0])) w') → Calls Tryz.prog 27 #[.agg #[hv, bv], v] E Q := fun g0 hv hq => (results_o (hh.grow (gD.trans g0)) (hb.gr (gD.trans g0)) hv).mono (by
      rintro e w' ⟨lv, rfl, ho, g⟩
      rw [resO_ofM hO] at ho ⊢
      exact hq lv w' g ho)
    have hdz : (dr w23 d.1).heap.size = w23.heap.size := rfl
    refine ⟨[_, _], rfl, hQD.all, [_, _], rfl, hBD.all, ⟨ch (Grow.refl _) fun v w31 g31 hv31 => ⟨v, rfl, g31, rs g31 hv31 fun lv w34 g34 ho34 => ⟨_, _, rfl, g34, fun w38 hw38 => ?_⟩, fun w44 hw44 => ?_⟩, fun w54 hw54 => ?_⟩⟩
    · -- the variable last
      have g38 := alloc_grow hw38
      have hbx := Box.new hw38
      have hs31 := g31.size
      have hs34 := g34.size
      refine ⟨OwnX.one ho34, ⟨_, hbx.cell⟩, hbx.free, fun w39 hw39 => ?_⟩
      have g3439 : Grow w34 w39 := g38.fr (set_fr hw39) fun i hi e => by have e : i = w34.heap.size := e; omega
      refine leaf (((gd.trans g31).trans g34).trans g3439) ?_ (hbx.set hw39).cell (by omega)
      exact (OwnX.base (ho34.grow g3439) (by omega)).weaken fun b hb => by
        have hb : b < w23.heap.size := hb
        show b < w31.heap.size
        omega
    · -- the variable before the results
      have g44 := alloc_grow hw44
      have s44 := alloc_size hw44
      have hbx := Box.new hw44
      have hs31 := g31.size
      refine rs (g31.trans g44) (hv31.gr g44) fun lv w45 g45 ho45 => ⟨_, _, rfl, g45, OwnX.one ho45, ⟨_, (hbx.grow g45).cell⟩, (hbx.grow g45).free, fun w49 hw49 => ?_⟩
      have f49 := set_fr hw49
      have g3149 : Grow w31 w49 := (g44.trans g45).fr f49 fun i hi e => by have e : i = w31.heap.size := e; omega
      refine leaf ((gd.trans g31).trans g3149) ?_ ((hbx.grow g45).set hw49).cell (by omega)
      refine (OwnX.base (OwnX.fr ho45 f49 (fun bb e => ?_) fun bb hbb e => ?_) (by omega)).weaken fun b hb => ?_
      · have e : bb = w31.heap.size := e
        show bb < w44.heap.size
        omega
      · have e : bb = w31.heap.size := e
        have := (ho45.lt hbb).1
        omega
      · have hb : b < w23.heap.size := hb
        show b < w44.heap.size
        omega
    · -- the variable first
      have g54 := alloc_grow hw54
      have s54 := alloc_size hw54
      have hbx := Box.new hw54
      rw [hdz] at s54 hbx ⊢
      refine ch g54 fun v w55 g55 hv55 => ⟨v, rfl, g55, rs (g54.trans g55) hv55 fun lv w58 g58 ho58 => ⟨_, _, rfl, g58, OwnX.one ho58, ⟨_, ((hbx.grow g55).grow g58).cell⟩, ((hbx.grow g55).grow g58).free, fun w62 hw62 => ?_⟩⟩
      have hs55 := g55.size
      have f62 := set_fr hw62
      have g2362 : Grow w23 w62 := (((gd.trans g54).trans g55).trans g58).fr f62 fun i hi e => by have e : i = w23.heap.size := e; omega
      refine leaf g2362 ?_ (((hbx.grow g55).grow g58).set hw62).cell (Nat.le_refl _)
      refine (OwnX.base (OwnX.fr ho58 f62 (fun bb e => ?_) fun bb hbb e => ?_) (by omega)).weaken fun b hb => ?_
      · have e : bb = w23.heap.size := e
        show bb < w55.heap.size
        omega
      · have e : bb = w23.heap.size := e
        have := (ho58.lt hbb).1
        omega
      · have hb : b < w23.heap.size := hb
        show b < w55.heap.size
        omega
  · have hkl : k = R.length := by omega
    subst hkl
    refine ⟨out, by rw [h0], ?_, g012.trans g23⟩
    unfold sureR
    rw [← hRR]
    exact OwnX.slX hout
end
end Go.Proofs.YtmjpnfapjcfejaaGreatDoor
