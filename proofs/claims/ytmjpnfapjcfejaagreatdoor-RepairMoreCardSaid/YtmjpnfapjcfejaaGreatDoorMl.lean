/- Contracts: rows of ints are sorted by the library, and put together where neighbours are equal. No condition. -/
import Derived.Test.YtmjpnfapjcfejaaGreatDoorMj
namespace Go.Proofs.YtmjpnfapjcfejaaGreatDoor
open Go Go.RowKit VC Go.Sort Go.Shelf
set_option linter.unusedSimpArgs false
set_option linter.unusedVariables false

theorem el_row : ElT Tryz.prog 48 22 1 24 (.slice none 0 0) := ⟨by kernel_rfl, ⟨Tryz.t22, by kernel_rfl, by kernel_rfl, by kernel_rfl, by kernel_rfl⟩, rfl⟩
theorem eqL_c {w : World} {u v : Value} {xs ys : List Int} (hx : SlI w u xs) (hy : SlI w v ys) : Calls Tryz.prog 60 #[u, v] w (Ret w (.bool (decide (xs = ys)))) := by
  refine f60_calls _ _ ?_
  refine (equal_c hx hy).mono ?_
  rintro e w' ⟨rfl, g⟩
  exact ⟨_, rfl, rfl, g⟩
theorem cmpL_c {w : World} {u v : Value} {xs ys : List Int} (hx : SlI w u xs) (hy : SlI w v ys) : Calls Tryz.prog 57 #[u, v] w (Same w (.int .i64 (cmpL xs ys))) := by
  refine f57_calls _ _ ?_
  refine (compare_c hx hy).mono ?_
  rintro e w' ⟨rfl, rfl⟩
  exact ⟨_, rfl, rfl, rfl⟩
theorem flat_set1 {α : Type} {f : α → List Value} {xs : List α} {i : Nat} {y : α} {u : Value} (h : ∀ x ∈ xs, (f x).length = 1) (hi : i < xs.length) (hy : f y = [u]) : (xs.set i y).flatMap f = (xs.flatMap f).set i u := by
  have hl : (xs.flatMap f).length = xs.length * 1 := flat_len' h
  rw [flat_set h hi (by rw [hy]; rfl), hy, List.set_eq_take_append_cons_drop, if_pos (by omega)]
  simp
/-- What holds between the rounds of CompactFunc, once two neighbours were equal: k kept, the rest from place k on as it was. -/
structure CpL (T : Nat → Prop) (w : World) (B g n cap : Nat) (l : List (List Int)) (ps : List (List Value × List Int)) (k j : Nat) (w' : World) (qs : List (List Value × List Int)) : Prop where
  len : qs.length = n
  kept : (qs.take k).map Prod.snd = dd (l.take j)
  rest : ∀ i, k ≤ i → qs[i]? = ps[i]?
  el : ∀ q ∈ qs, ElX T 1 repI (.slice (some ⟨g, 0, none⟩) n cap) w' q
  own : Own w' B 22 1 (.slice (some ⟨g, 0, none⟩) n cap) n (qs.flatMap Prod.fst)
  fr : Fr (fun b => b = g) w w'
theorem rec_al {w : World} {B g n cap : Nat} {qs : List (List Value × List Int)} (hl : ∀ q ∈ qs, q.1.length = 1) (ho : Own w B 22 1 (.slice (some ⟨g, 0, none⟩) n cap) n (qs.flatMap Prod.fst)) {i : Nat} (hi : i < qs.length) : ∀ (j : Nat) (u : Value), (qs[i].1)[j]? = some u → w.cell? ⟨g, i * 1 + j, none⟩ = some u := by
  intro j u hj
  have hjk : j < 1 := by
    have h1 := (List.getElem?_eq_some_iff.1 hj).1
    have h2 := hl _ (List.getElem_mem hi)
    omega
  have hc := World.ownsRow.cells (g := g) ho rfl (i * 1 + j) u (by rw [flat_get' hl hi hjk]; exact hj)
  rwa [Addr.add0] at hc
theorem compactL_c {T : Nat → Prop} {w : World} {B : Nat} {v : Value} {l : List (List Int)} (ho : OwnX T 1 repI w B 22 v l) : Calls Tryz.prog 59 #[v, .func (.func 60) #[] #[]] w fun e w' => ∃ v', e = .returned v' ∧ OwnX T 1 repI w' B 22 v' (dd l) ∧ FrO v w w' ∧ (∀ b, v'.ownBlock = some b → v.ownBlock = some b) := by
  refine f59_calls _ _ ?_
  have hle := SlX.len_le ho.slX
  refine ho.ln (condD (fun h2 => ⟨v, rfl, ?_, Fr.refl _ _, fun b hb => hb⟩) fun h2 => ?_)
  · have : dd l = l := by
      match l, h2 with
      | [], _ => rfl
      | [a], _ => rfl
      | _ :: _ :: r, h => simp at h; omega
    rwa [this]
  obtain ⟨ps, hps, hel, hown⟩ := ho.ex
  have hpl : ps.length = l.length := by rw [← hps, List.length_map]
  have hv : ∃ g cap, v = .slice (some ⟨g, 0, none⟩) l.length cap ∧ l.length ≤ cap ∧ g < w.heap.size := by
    rcases hown.2 with ⟨_, h0⟩ | ⟨g, cap, cur, rfl, hb, hgg, hnc, _⟩
    · omega
    · exact ⟨g, cap, rfl, hnc, (Array.getElem?_eq_some_iff.1 hgg).1⟩
  obtain ⟨g, cap, rfl, hcap, hgw⟩ := hv
  have hl2 : ∀ p ∈ ps, p.1.length = 1 := fun p hp => (hel p hp).len
  have eqc : ∀ {w1 : World} {p q : List Value × List Int}, ElX T 1 repI (.slice (some ⟨g, 0, none⟩) l.length cap) w1 p → ElX T 1 repI (.slice (some ⟨g, 0, none⟩) l.length cap) w1 q → ∀ {a b : Value}, p.1 = [a] → q.1 = [b] → ∀ w2, Grow w1 w2 → Calls Tryz.prog 60 (#[] ++ #[a, b] ++ #[]) w2 fun e w' => e = .returned (.bool (decide (p.2 = q.2))) ∧ Grow w2 w' := fun {w1 p q} hp hq {a b} ea eb w2 hg => by
    obtain ⟨u, h1, hu⟩ := hp.rep w2 (Fr.of_grow hg)
    obtain ⟨u', h1', hu'⟩ := hq.rep w2 (Fr.of_grow hg)
    rw [ea] at h1
    rw [eb] at h1'
    obtain rfl : a = u := by simpa using h1
    obtain rfl : b = u' := by simpa using h1'
    rw [app2]
    exact eqL_c hu hu'
  have one : ∀ {w1 : World} {p : List Value × List Int}, ElX T 1 repI (.slice (some ⟨g, 0, none⟩) l.length cap) w1 p → ∃ a, p.1 = [a] := fun {w1 p} hp => by
    obtain ⟨u, h1, _⟩ := hp.rep w1 (Fr.refl _ _)
    exact ⟨u, h1⟩
  have idx : ∀ i (hi : i < l.length), (ps[i]'(by omega)).2 = l[i] := fun i hi => by
    simp only [← hps, List.getElem_map]
  have at0 : ∀ (i : Nat), Addr.add ⟨g, 0, none⟩ (i * 1) = ⟨g, i * 1 + 0, none⟩ := fun i => by rw [Addr.add0]; rfl
  refine ⟨fun k w' => ∃ i : Nat, k = i ∧ 1 ≤ i ∧ i ≤ l.length ∧ dd (l.take i) = l.take i ∧ Grow w w', fun k _ => l.length - k.toNat, ⟨1, rfl, by omega, by omega, ?_, Grow.refl w⟩, ?_⟩
  · match l, h2 with
    | [], h => simp at h
    | a :: r, _ => rfl
  rintro - k w8 ⟨i, rfl, hi1, hi, hdd, g8⟩
  have o8 := Own.grow hown g8
  refine ⟨_, _, _, rfl, condD (fun hlt => ?_) fun hge => ?_⟩
  · have hil : i < l.length := by omega
    have e1 : ((i : Int) - 1).toNat = i - 1 := by omega
    obtain ⟨ua, ea⟩ := one (hel _ (List.getElem_mem (show i < ps.length by omega)))
    obtain ⟨ub, eb⟩ := one (hel _ (List.getElem_mem (show i - 1 < ps.length by omega)))
    refine ⟨_, _, _, rfl, ⟨by omega, by omega⟩, ua, ?_, by unfold inR; omega, _, _, _, rfl, ⟨by omega, by omega⟩, ub, ?_, ?_⟩
    · rw [Int.toNat_natCast, at0]; exact rec_al hl2 o8 (by omega) 0 ua (by rw [ea]; rfl)
    · rw [e1, at0]; exact rec_al hl2 o8 (by omega) 0 ub (by rw [eb]; rfl)
    refine ⟨_, _, _, rfl, by kernel_rfl, _, eqc ((hel _ (List.getElem_mem _)).grow g8) ((hel _ (List.getElem_mem _)).grow g8) ea eb, fun w27 g27 => ?_⟩
    have g027 := g8.trans g27
    rw [idx i hil, idx (i - 1) (by omega)]
    have hdt := dd_take (l := l) hi1 hil
    refine condD (fun heq => ?_) fun hne => ?_
    · rw [if_pos heq, List.append_nil] at hdt
      have hsb : sbR (some (Value.int .i64 (i : Int))) none none l.length cap i l.length cap := ⟨rfl, rfl, rfl, by simp, by omega, by omega, by omega⟩
      have hci : ¬ cap = i := by omega
      refine ⟨_, _, _, rfl, i, l.length, cap, hsb, ?_⟩
      rw [if_neg hci]
      refine ⟨fun k k2 w' => ∃ (a b : Nat) (qs : List (List Value × List Int)), k = a ∧ k2 = b ∧ 1 ≤ b ∧ i + b ≤ l.length ∧ a + 1 ≤ i + b ∧ 1 ≤ a ∧ CpL T w B g l.length cap l ps a (i + b) w' qs, fun _ k2 _ => l.length - i - k2.toNat, ⟨i, 1, ps, rfl, rfl, by omega, by omega, by omega, by omega, ⟨hpl, ?_, fun _ _ => rfl, fun q hq => (hel q hq).grow g027, Own.grow hown g027, Fr.of_grow g027⟩⟩, ?_⟩
      · rw [hdt, hdd, List.map_take, hps]
      rintro - - - w39 ⟨a, b, qs, rfl, rfl, hb1, hib, hab, ha1, hI⟩
      have hql : ∀ q ∈ qs, q.1.length = 1 := fun q hq => (hI.el q hq).len
      have hqn := hI.len
      refine ⟨_, _, _, rfl, condD (fun hlt2 => ?_) fun hge2 => ?_⟩
      · have hbl : i + b < l.length := by omega
        have qe : ∀ j (hj : a ≤ j) (hjl : j < l.length), qs[j]'(by omega) = ps[j]'(by omega) := fun j hj hjl => by
          have := hI.rest j hj
          rw [List.getElem?_eq_getElem (by omega), List.getElem?_eq_getElem (by omega)] at this
          exact Option.some.inj this
        have e2 : ((b : Int) - 1).toNat = b - 1 := by omega
        have at2 : ∀ (x : Nat), Addr.add (Addr.add ⟨g, 0, none⟩ (i * 1)) (x * 1) = ⟨g, (i + x) * 1 + 0, none⟩ := fun x => by
          rw [add_add, Addr.add0]; congr 1; omega
        obtain ⟨ua, ea⟩ := one (hI.el _ (List.getElem_mem (show i + b < qs.length by omega)))
        obtain ⟨ub, eb⟩ := one (hI.el _ (List.getElem_mem (show i + (b - 1) < qs.length by omega)))
        refine ⟨_, _, _, rfl, ⟨by omega, by omega⟩, ua, ?_, by unfold inR; omega, _, _, _, rfl, ⟨by omega, by omega⟩, ub, ?_, ?_⟩
        · rw [Int.toNat_natCast, at2]; exact rec_al hql hI.own (by omega) 0 ua (by rw [ea]; rfl)
        · rw [e2, at2]; exact rec_al hql hI.own (by omega) 0 ub (by rw [eb]; rfl)
        refine ⟨_, _, _, rfl, by kernel_rfl, _, eqc (hI.el _ (List.getElem_mem _)) (hI.el _ (List.getElem_mem _)) ea eb, fun w58 g58 => ?_⟩
        have hdt2 := dd_take (l := l) (i := i + b) (by omega) hbl
        have c1 : (qs[i + b]'(by omega)).2 = l[i + b] := by rw [qe _ (by omega) (by omega), idx]
        have c2 : (qs[i + (b - 1)]'(by omega)).2 = l[i + b - 1] := by
          rw [qe _ (by omega) (by omega), idx (i + (b - 1)) (by omega)]
          congr 1; omega
        rw [c1, c2]
        have hI58 : CpL T w B g l.length cap l ps a (i + b) w58 qs := ⟨hqn, hI.kept, hI.rest, fun q hq => (hI.el q hq).grow g58, Own.grow hI.own g58, hI.fr.trans (Fr.of_grow g58)⟩
        refine condP_i (fun hne => ?_) fun heq2 => ?_
        · have hne : ¬ l[i + b] = l[i + b - 1] := by simpa using hne
          rw [if_neg hne] at hdt2
          have hel58 := hI58.el _ (List.getElem_mem (show i + b < qs.length by omega))
          have aA : Addr.add ⟨g, 0, none⟩ (Int.toNat (a : Int) * 1) = ⟨g, a, none⟩ := by rw [Int.toNat_natCast, Addr.add0]; simp
          refine ⟨_, _, _, rfl, ⟨by omega, by omega⟩, ua, ?_, _, _, _, rfl, ⟨by omega, by omega⟩, ?_⟩
          · rw [Int.toNat_natCast, at2]; exact rec_al hql hI58.own (by omega) 0 ua (by rw [ea]; rfl)
          · rw [aA]
            refine ⟨?_, (Own.wr hI58.own (show a < l.length by omega)).1, (Own.wr hI58.own (show a < l.length by omega)).2, fun w66 hw66 => ?_⟩
            · obtain ⟨u, h1, hu⟩ := hel58.rep w58 (Fr.refl _ _)
              rw [ea] at h1
              obtain rfl : ua = u := by simpa using h1
              exact hu.one
            have hf66 : Fr (fun k => k = g) w58 w66 := set_fr hw66
            have ho66 := Own.set hI58.own (show a < l.length by omega) hw66
            refine ⟨by unfold inR; omega, by unfold inR; omega, ⟨a + 1, b + 1, qs.set a (qs[i + b]'(by omega)), by omega, by omega, by omega, by omega, by omega, by omega, ?_⟩, by dsimp only; omega⟩
            · refine ⟨by simpa using hqn, ?_, fun j hj => ?_, fun q hq => ?_, ?_, hI58.fr.trans hf66⟩
              · rw [← Nat.add_assoc, hdt2, ← hI.kept, List.take_succ_eq_append_getElem (by simp; omega), List.map_append]
                congr 1
                · rw [List.take_set_of_le (by omega)]
                · simp [c1]
              · rw [List.getElem?_set_ne (by omega)]
                exact hI.rest j (by omega)
              · rcases List.mem_or_eq_of_mem_set hq with hq | rfl
                · exact (hI58.el q hq).later (hf66.mono fun b' _ e => .inr (by rw [e]; rfl))
                · exact hel58.later (hf66.mono fun b' _ e => .inr (by rw [e]; rfl))
              · rw [flat_set1 hql (by omega) ea]; exact ho66
        · have heq2 : l[i + b] = l[i + b - 1] := by simpa using heq2
          rw [if_pos heq2, List.append_nil] at hdt2
          refine ⟨by unfold inR; omega, ⟨a, b + 1, qs, rfl, by omega, by omega, by omega, by omega, ha1, ⟨hqn, ?_, hI58.rest, hI58.el, hI58.own, hI58.fr⟩⟩, by dsimp only; omega⟩
          rw [← Nat.add_assoc, hdt2]; exact hI.kept
      · have hbl : i + b = l.length := by omega
        have hsb2 : sbR (some (Value.int .i64 (a : Int))) none none l.length cap a l.length cap := ⟨rfl, rfl, rfl, by simp, by omega, by omega, by omega⟩
        have hca : ¬ cap = a := by omega
        have hfl : (qs.flatMap Prod.fst).length = qs.length * 1 := flat_len' hql
        have hzl : (Builtin.zeroCells (Value.slice none 0 0).cells (l.length - a)).toList.length = (l.length - a) * 1 := by
          rw [Array.length_toList, size_zeroCells]; rfl
        obtain ⟨w74, hr, hf74, ho74⟩ := Own.put (P := Tryz.prog) (o := a * 1) (vs := (Builtin.zeroCells (Value.slice none 0 0).cells (l.length - a)).toList) hI.own (by rw [hzl]; omega) (zeroCells_mem (by decide) (by
          intro u hu
          simp [Value.cells] at hu
          subst hu; rfl))
        refine ⟨_, _, _, rfl, a, l.length, cap, hsb2, w74, ?_, ?_⟩
        · rw [if_neg hca]
          refine clear_run el_row (by omega) ?_
          show (storeCells (Addr.add ⟨g, 0, none⟩ (a * 1)) _).run _ _ = _
          rw [Addr.add0]; exact hr
        · refine ⟨_, _, _, rfl, 0, a, cap, ⟨rfl, rfl, rfl, by simp, by omega, by omega, by omega⟩, ?_⟩
          have hcc : ¬ cap = 0 := by omega
          have hcut := Own.cut ho74 (k := a) (by omega)
          have e5 : ((qs.flatMap Prod.fst).take (a * 1) ++ (Builtin.zeroCells (Value.slice none 0 0).cells (l.length - a)).toList ++ (qs.flatMap Prod.fst).drop (a * 1 + (Builtin.zeroCells (Value.slice none 0 0).cells (l.length - a)).toList.length)).take (a * 1) = (qs.take a).flatMap Prod.fst := by
            rw [List.append_assoc, List.take_append_of_le_length (by rw [List.length_take, hfl]; omega), List.take_take, Nat.min_self]
            exact (flat_take hql).symm
          rw [e5] at hcut
          have hkl : (dd l).length = a := by
            have := congrArg List.length hI.kept
            rw [hbl, List.take_length] at this
            rw [← this]; simp; omega
          refine ⟨_, rfl, ⟨qs.take a, ?_, fun q hq => ?_, ?_⟩, hI.fr.trans hf74 |>.mono (fun b' _ e => by rw [e]; rfl), fun b' hb' => ?_⟩
          · rw [hI.kept, hbl, List.take_length]
          · have hq' := hI.el q (List.mem_of_mem_take hq)
            refine ⟨hq'.len, hq'.one, fun w2 hf2 => hq'.rep w2 ((hf74.mono fun b' _ e => .inr (by rw [e]; rfl)).trans (hf2.mono fun b' _ e => ?_))⟩
            rcases e with e | e
            · exact .inl e
            · refine .inr ?_
              rw [if_neg hcc] at e
              simpa [Value.ownBlock, add_block] using e
          · rw [hkl, if_neg hcc]
            simpa [Addr.add0] using hcut
          · rw [if_neg hcc] at hb'
            simpa [Value.ownBlock, add_block] using hb'
    · rw [if_neg hne] at hdt
      refine ⟨by unfold inR; omega, ⟨i + 1, by omega, by omega, by omega, ?_, g027⟩, by dsimp only; omega⟩
      rw [hdt, hdd, List.take_succ_eq_append_getElem hil]
  · have hil : i = l.length := by omega
    subst hil
    rw [List.take_length] at hdd
    exact ⟨_, rfl, by rw [hdd]; exact ho.grow g8, Fr.of_grow g8, fun b hb => hb⟩
theorem put_map {α : Type} [Inhabited α] (enc : α → Value) (w : World) (g : Nat) (d : Array α) : putRow enc w g 0 d = putRow id w g 0 (d.map enc) := by
  have : ∀ c : Array Value, putCells enc 0 d c = putCells id 0 (d.map enc) c := fun c => by
    unfold putCells
    apply Array.ext
    · simp
    · intro i h1 h2
      simp only [Array.getElem_mapIdx, Array.size_map]
      split
      · rename_i h
        have hi : i - 0 < d.size := by omega
        rw [getElem!_pos d _ hi, getElem!_pos (d.map enc) _ (by simpa using hi)]
        simp
      · rfl
  unfold putRow
  congr 1
  funext c
  exact this c
theorem sortL_c {T : Nat → Prop} {w : World} {B : Nat} {v : Value} {l : List (List Int)} (ho : OwnX T 1 repI w B 22 v l) (hlen : l.length ≤ 1000000) : Calls Tryz.prog 56 #[v, .func (.func 57) #[] #[]] w fun e w' =>
    ∃ l', e = .returned (.tuple #[]) ∧ l'.Perm l ∧ l'.Pairwise (fun a b => cmpL a b ≤ 0) ∧ OwnX T 1 repI w' B 22 v l' ∧ FrO v w w' := by
  obtain ⟨ps, hps, hel, hown⟩ := ho.ex
  have hpl : ps.length = l.length := by rw [← hps, List.length_map]
  have none : ∀ a c, l = [] → Calls Tryz.prog 56 #[.slice a 0 c, .func (.func 57) #[] #[]] w fun e w' => e = .returned (.tuple #[]) ∧ w' = w := fun a c _ =>
    AnyF.slices_SortFunc_none Tryz.laysSlF06_f56 a c _ w
  rcases hown.2 with ⟨rfl, h0⟩ | ⟨g, cap, cur, rfl, hb, hgg, hnc, hcm, hcs, htake⟩
  · have hl : l = [] := by simpa using h0
    subst hl
    refine (none _ _ rfl).mono ?_
    rintro e w' ⟨rfl, rfl⟩
    exact ⟨[], rfl, List.Perm.refl _, List.Pairwise.nil, ho, Fr.refl _ _⟩
  by_cases hl : l = []
  · subst hl
    refine (none _ _ rfl).mono ?_
    rintro e w' ⟨rfl, rfl⟩
    exact ⟨[], rfl, List.Perm.refl _, List.Pairwise.nil, ho, Fr.refl _ _⟩
  have hgw : g < w.heap.size := (Array.getElem?_eq_some_iff.1 hgg).1
  have hpos : 0 < ps.length := by
    rcases Nat.eq_zero_or_pos l.length with h | h
    · exact absurd (by simpa using h) hl
    · omega
  let α := { p : List Value × List Int // ElX T 1 repI (.slice (some ⟨g, 0, Option.none⟩) l.length cap) w p }
  haveI : Inhabited α := ⟨⟨ps[0], hel _ (List.getElem_mem hpos)⟩⟩
  let enc : α → Value := fun p => p.1.1.headD (.bool false)
  have he : ∀ x : α, x.1.1 = [enc x] := fun x => by
    obtain ⟨u, h1, _⟩ := x.2.rep w (Fr.refl _ _)
    simp only [enc]
    rw [h1]; rfl
  let d : Array α := (ps.pmap (fun p hp => (⟨p, hp⟩ : α)) hel).toArray
  have hds : d.size = l.length := by simp [d, hpl]
  have flat : ∀ xs : List α, xs.map enc = xs.flatMap (fun p => p.1.1) := fun xs => by
    induction xs with
    | nil => rfl
    | cons x r ih => rw [List.map_cons, List.flatMap_cons, ih, he x]; rfl
  have hfl : d.toList.map enc = ps.flatMap Prod.fst := by
    rw [flat]
    simp only [d]
    have : ∀ (qs : List (List Value × List Int)) (hq : ∀ p ∈ qs, ElX T 1 repI (.slice (some ⟨g, 0, Option.none⟩) l.length cap) w p), (qs.pmap (fun p hp => (⟨p, hp⟩ : α)) hq).flatMap (fun p => p.1.1) = qs.flatMap Prod.fst := by
      intro qs
      induction qs with
      | nil => intro _; rfl
      | cons q r ih => intro hq; simp only [List.pmap_cons, List.flatMap_cons]; rw [ih]
    exact this ps hel
  have hcont : d.toList.map (fun p => p.1.2) = l := by
    refine Eq.trans ?_ hps
    simp only [d, List.map_pmap]
    rw [List.pmap_eq_map]
  have hH : Holds enc w g 0 d := by
    have h1 := Own.holds hown
    rw [← hfl] at h1
    intro j hj
    have := h1 j (by simpa using hj)
    rw [getElem!_pos d j hj]
    have e : (d.toList.map enc).toArray[j]! = enc d[j] := by
      rw [getElem!_pos _ j (by simpa using hj)]
      simp
    rw [e] at this
    exact this
  have h1 : OneCell enc := fun x => by
    have := x.2.one (enc x) (by rw [he x]; simp)
    exact this
  have eg := callAll 57 (by kernel_rfl)
  have hcmp : CmpLays1 Tryz.prog 57 #[] enc (fun x y => cmpL x.1.2 y.1.2) g 0 d.size w := by
    intro m os dk hdk x y
    have hfr : FrT T (.slice (some ⟨g, 0, Option.none⟩) l.length cap) w (sortWorld enc w g 0 m dk os) := by
      unfold sortWorld
      rw [put_map]
      exact (put_fr (n := m) (os := os) (dk.map enc)).mono fun b _ e => .inr (by rw [e]; rfl)
    obtain ⟨u, h1, hu⟩ := x.2.rep _ hfr
    obtain ⟨u', h1', hu'⟩ := y.2.rep _ hfr
    rw [he x] at h1
    rw [he y] at h1'
    obtain rfl : enc x = u := by simpa using h1
    obtain rfl : enc y = u' := by simpa using h1'
    refine (cmpL_c hu hu').mono ?_
    rintro e w' ⟨rfl, rfl⟩
    exact ⟨rfl, growD (Grow.refl _) (Nat.le_refl _)⟩
  have key := Tryz.slices_SortFunc enc h1 (fun x y => cmpL x.1.2 y.1.2) (swoL (α := α) fun x => x.1.2) 57 #[] g 0 cap d w eg hcmp hH hgw (by omega)
  rw [hds] at key
  refine key.mono ?_
  rintro e w' ⟨rfl, d', n, os, hperm, hsort, rfl⟩
  have hds' : d'.size = l.length := hperm.1.trans hds
  have hp : d'.toList.Perm d.toList := by
    have := hperm.2.2
    have a1 : d'.extract 0 l.length = d' := by rw [← hds']; simp
    have a2 : d.extract 0 l.length = d := by rw [← hds]; simp
    rwa [a1, a2] at this
  have eW : sortWorld enc w g 0 n d' os = Go.Sort.grow (putRow id (Go.Sort.ahead w n) g 0 (d'.toList.map enc).toArray) os := by
    unfold sortWorld
    rw [put_map]
    congr 2
    apply Array.ext'
    simp
  have hf : FrO (.slice (some ⟨g, 0, Option.none⟩) l.length cap) w (sortWorld enc w g 0 n d' os) := by
    rw [eW]
    exact (put_fr (n := n) (os := os) _).mono fun b _ e => by rw [e]; rfl
  refine ⟨d'.toList.map (fun p => p.1.2), rfl, ?_, ?_, ⟨d'.toList.map (fun p => p.1), by rw [List.map_map]; rfl, fun p hp' => ?_, ?_⟩, hf⟩
  · have := hp.map (fun p => p.1.2)
    rwa [hcont] at this
  · rw [List.pairwise_map, List.pairwise_iff_getElem]
    intro i j hi hj hij
    have hi' : i < d'.size := by simpa using hi
    have hj' : j < d'.size := by simpa using hj
    have := hsort i j (Nat.zero_le _) hij (by omega)
    rw [getElem!_pos d' j hj', getElem!_pos d' i hi'] at this
    simp only [ltOf, decide_eq_false_iff_not] at this
    have h3 := cmpL_swap d'[i].1.2 d'[j].1.2
    simp only [Array.getElem_toList]
    have h4 : ¬ cmpL d'[j].1.2 d'[i].1.2 < 0 := this
    omega
  · obtain ⟨q, _, rfl⟩ := List.mem_map.1 hp'
    exact q.2.later (hf.mono fun b _ e => .inr e)
  · have e1 : (d'.toList.map (fun p => p.1)).flatMap Prod.fst = d'.toList.map enc := by rw [List.flatMap_map, flat]
    have e2 : (d'.toList.map (fun p => p.1.2)).length = l.length := by simp [hds']
    rw [e1, e2, eW]
    exact Own.behind (m := n) (os := os) (ts := d'.toList.map enc) hown (by simp [hds'])
/-! ## Sorted and put together: each row once -/
theorem ddpL_sorted : ∀ {r : List (List Int)} {y : List Int}, (y :: r).Pairwise (fun a b => cmpL a b ≤ 0) → (y :: ddp y r).Pairwise (fun a b => cmpL a b < 0)
  | [], y, _ => by simp [ddp]
  | x :: r, y, h => by
    obtain ⟨h1, h2⟩ := List.pairwise_cons.1 h
    have ih := ddpL_sorted h2
    rw [ddp]
    split
    · rename_i e
      subst e; exact ih
    · rename_i hne
      have hyx : cmpL y x < 0 := by
        have := h1 x (List.mem_cons_self ..)
        have : cmpL y x ≠ 0 := fun e => hne (cmpL_zero.1 e).symm
        omega
      refine List.pairwise_cons.2 ⟨fun z hz => ?_, ih⟩
      rcases List.mem_cons.1 hz with rfl | hz
      · exact hyx
      · exact cmpL_lt_trans hyx ((List.pairwise_cons.1 ih).1 z hz)
theorem ddL_srt {l l' : List (List Int)} (hp : l'.Perm l) (h : l'.Pairwise (fun a b => cmpL a b ≤ 0)) : dd l' = srtL l := by
  refine srt_eq key_id ?_ fun a => mem_dd.trans hp.mem_iff
  cases l' with
  | nil => exact List.Pairwise.nil
  | cons a r => exact ddpL_sorted h
end Go.Proofs.YtmjpnfapjcfejaaGreatDoor
