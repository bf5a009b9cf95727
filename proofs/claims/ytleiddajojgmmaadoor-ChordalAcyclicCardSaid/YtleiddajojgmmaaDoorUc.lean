/- Contracts: slices.Compact and slices.DeleteFunc at ints, on an array of the call's own. No condition. -/
import Derived.Test.YtleiddajojgmmaaDoorMc
import Derived.Test.YtleiddajojgmmaaDoorVw
namespace Go.Proofs.YtleiddajojgmmaaDoor
open Go Go.RowKit VC
set_option linter.unusedSimpArgs false
set_option linter.unusedVariables false

theorem own_rd {w : World} {B g n cap : Nat} {cs : List Int} (ho : Own w B 3 1 (.slice (some ⟨g, 0, none⟩) n cap) n (cs.map VC.encI)) {i : Nat} (hi : i < cs.length) : w.cell? ⟨g, i, none⟩ = some (.int .i64 cs[i]) := by
  have hc := World.ownsRow.cells (g := g) ho rfl i (.int .i64 cs[i]) (by rw [List.getElem?_map, List.getElem?_eq_getElem hi]; rfl)
  rwa [Addr.add0] at hc
theorem own_shape {w : World} {B : Nat} {v : Value} {l : List Int} (ho : OwnI w B v l) (h1 : 1 ≤ l.length) : ∃ g cap, v = .slice (some ⟨g, 0, none⟩) l.length cap ∧ l.length ≤ cap ∧ g < w.heap.size := by
  rcases ho.2 with ⟨_, h0⟩ | ⟨g, cap, cur, rfl, hb, hgg, hnc, _⟩
  · omega
  · exact ⟨g, cap, rfl, hnc, (Array.getElem?_eq_some_iff.1 hgg).1⟩
/-- What is left is cleared, and the rest cut off. -/
theorem cut_rest {w : World} {B g n cap a : Nat} {cur : List Int} (hl : cur.length = n) (ho : Own w B 3 1 (.slice (some ⟨g, 0, none⟩) n cap) n (cur.map VC.encI)) (ha : a < n) (hnc : n ≤ cap) {K : Value → World → Prop}
    (hk : ∀ v' w', OwnI w' B v' (cur.take a) → Fr (fun b => b = g) w w' → (∀ b, v'.ownBlock = some b → b = g) → K v' w') :
    ∃ (x : Option Addr) (n1 c1 : Nat), Value.slice (some ⟨g, 0, none⟩) n cap = .slice x n1 c1 ∧ ∃ l h m : Nat, sbR (some (.int .i64 (a : Int))) none none n1 c1 l h m ∧ ∃ w' : World, (Builtin.clear_ #[22] 0 #[(Value.slice (if m = l then x else x.map (·.add (l * 1))) (h - l) (m - l))]).run Tryd.prog w = .ok (.tuple #[]) w' ∧
      ∃ (y : Option Addr) (n2 c2 : Nat), Value.slice (some ⟨g, 0, none⟩) n cap = .slice y n2 c2 ∧ ∃ l2 h2 m2 : Nat, sbR none (some (.int .i64 (a : Int))) none n2 c2 l2 h2 m2 ∧ K (.slice (if m2 = l2 then y else y.map (·.add (l2 * 1))) (h2 - l2) (m2 - l2)) w' := by
  have hca : ¬ cap = a := by omega
  have hcc : ¬ cap = 0 := by omega
  have hcm : cap ≤ 9223372036854775807 := by
    obtain ⟨x, c, e, h1, h2, h3, h4⟩ := ho.slC.ex
    cases e
    exact h2
  have hzl : (Builtin.zeroCells (Value.int .i64 0).cells (n - a)).toList.length = n - a := by
    rw [Array.length_toList, size_zeroCells]; simp [Value.cells]
  obtain ⟨w74, hr, hf74, ho74⟩ := Own.put (P := Tryd.prog) (o := a) (vs := (Builtin.zeroCells (Value.int .i64 0).cells (n - a)).toList) ho (by rw [hzl]; omega) (zeroCells_mem (by decide) (by
    intro u hu
    simp [Value.cells] at hu
    subst hu; rfl))
  refine ⟨_, _, _, rfl, a, n, cap, ⟨rfl, rfl, rfl, by simp, by omega, by omega, by omega⟩, w74, ?_, ?_⟩
  · rw [if_neg hca]
    refine clear_run el_int (by omega) ?_
    show (storeCells (Addr.add ⟨g, 0, none⟩ (a * 1)) _).run _ _ = _
    rw [Nat.mul_one, Addr.add0]; exact hr
  · refine ⟨_, _, _, rfl, 0, a, cap, ⟨rfl, rfl, rfl, by simp, by omega, by omega, by omega⟩, ?_⟩
    have hcut := Own.cut ho74 (k := a) (by omega)
    have e5 : ((cur.map VC.encI).take a ++ (Builtin.zeroCells (Value.int .i64 0).cells (n - a)).toList ++ (cur.map VC.encI).drop (a + (Builtin.zeroCells (Value.int .i64 0).cells (n - a)).toList.length)).take (a * 1) = (cur.take a).map VC.encI := by
      rw [List.append_assoc, List.take_append_of_le_length (by rw [List.length_take, List.length_map]; omega), Nat.mul_one, List.take_take, Nat.min_self, List.map_take]
    rw [e5] at hcut
    have hcl : (cur.take a).length = a := by rw [List.length_take]; omega
    refine hk _ _ ?_ hf74 fun b hb => ?_
    · unfold OwnI
      rw [hcl, if_neg hcc]
      simpa [Addr.add0] using hcut
    · rw [if_neg hcc] at hb
      simpa [Value.ownBlock, add_block, eq_comm] using hb
/-! ## Compact -/
structure CpN (w : World) (B g n cap : Nat) (l : List Int) (a b : Nat) (w' : World) (cur : List Int) : Prop where
  len : cur.length = n
  kept : cur.take a = dd (l.take b)
  rest : ∀ i, a ≤ i → cur[i]? = l[i]?
  own : Own w' B 3 1 (.slice (some ⟨g, 0, none⟩) n cap) n (cur.map VC.encI)
  fr : Fr (fun b => b = g) w w'
theorem compactI_c {w : World} {B : Nat} {v : Value} {l : List Int} (ho : OwnI w B v l) : Calls Tryd.prog 20 #[v] w fun e w' => ∃ v', e = .returned v' ∧ OwnI w' B v' (dd l) ∧ Fr (fun b => v.ownBlock = some b) w w' ∧ (∀ b, v'.ownBlock = some b → v.ownBlock = some b) := by
  refine f20_calls _ ?_
  have hle := (Own.slI ho).len_le
  refine (Own.slI ho).ln (condD (fun h2 => ⟨v, rfl, ?_, Fr.refl _ _, fun b hb => hb⟩) fun h2 => ?_)
  · have : dd l = l := by
      match l, h2 with
      | [], _ => rfl
      | [a], _ => rfl
      | _ :: _ :: r, h => simp at h; omega
    rwa [this]
  obtain ⟨g, cap, rfl, hcap, hgw⟩ := own_shape ho (by omega)
  refine ⟨fun k w' => ∃ i : Nat, k = i ∧ 1 ≤ i ∧ i ≤ l.length ∧ dd (l.take i) = l.take i ∧ Grow w w', fun k _ => l.length - k.toNat, ⟨1, rfl, by omega, by omega, ?_, Grow.refl w⟩, ?_⟩
  · match l, h2 with
    | [], h => simp at h
    | a :: r, _ => rfl
  rintro - k w8 ⟨i, rfl, hi1, hi, hdd, g8⟩
  have o8 := Own.grow ho g8
  have at0 : ∀ (x : Nat), Addr.add ⟨g, 0, none⟩ (x * 1) = ⟨g, x, none⟩ := fun x => by rw [Addr.add0]; simp
  refine ⟨_, _, _, rfl, condD (fun hlt => ?_) fun hge => ?_⟩
  · have hil : i < l.length := by omega
    have e1 : ((i : Int) - 1).toNat = i - 1 := by omega
    refine ⟨_, _, _, rfl, ⟨by omega, by omega⟩, l[i], ?_, by unfold inR; omega, _, _, _, rfl, ⟨by omega, by omega⟩, l[i - 1], ?_, fun d => ?_⟩
    · rw [Int.toNat_natCast, at0]; exact own_rd o8 hil
    · rw [e1, at0]; exact own_rd o8 (by omega)
    obtain ⟨wd, ewd⟩ : ∃ wd, wd = dr w8 d.1 := ⟨_, rfl⟩
    have gd : Grow w8 wd := by rw [ewd]; exact (Grow.refl w8).dr d.1
    rw [← ewd]
    have g0d := g8.trans gd
    have hdt := dd_take (l := l) hi1 hil
    refine condD (fun heq => ?_) fun hne => ?_
    · rw [if_pos heq, List.append_nil] at hdt
      have hsb : sbR (some (Value.int .i64 (i : Int))) none none l.length cap i l.length cap := by
        have hcm : cap ≤ 9223372036854775807 := by
          obtain ⟨x, c, e, h1, h2, h3, h4⟩ := ho.slC.ex
          cases e
          exact h2
        exact ⟨rfl, rfl, rfl, by simp, by omega, by omega, by omega⟩
      have hci : ¬ cap = i := by omega
      refine ⟨_, _, _, rfl, i, l.length, cap, hsb, ?_⟩
      rw [if_neg hci]
      refine ⟨fun k k2 w' => ∃ (a b : Nat) (cur : List Int), k = a ∧ k2 = b ∧ 1 ≤ b ∧ i + b ≤ l.length ∧ a + 1 ≤ i + b ∧ 1 ≤ a ∧ CpN w B g l.length cap l a (i + b) w' cur, fun _ k2 _ => l.length - i - k2.toNat, ⟨i, 1, l, rfl, rfl, by omega, by omega, by omega, by omega, ⟨rfl, by rw [hdt, hdd], fun _ _ => rfl, Own.grow ho g0d, Fr.of_grow g0d⟩⟩, ?_⟩
      rintro - - - w39 ⟨a, b, cur, rfl, rfl, hb1, hib, hab, ha1, hI⟩
      have hcn := hI.len
      refine ⟨_, _, _, rfl, condD (fun hlt2 => ?_) fun hge2 => ?_⟩
      · have hbl : i + b < l.length := by omega
        have qe : ∀ j (hj : a ≤ j) (hjl : j < l.length), cur[j]'(by omega) = l[j] := fun j hj hjl => by
          have := hI.rest j hj
          rw [List.getElem?_eq_getElem (by omega), List.getElem?_eq_getElem hjl] at this
          exact Option.some.inj this
        have e2 : ((b : Int) - 1).toNat = b - 1 := by omega
        have at2 : ∀ (x : Nat), Addr.add (Addr.add ⟨g, 0, none⟩ (i * 1)) (x * 1) = ⟨g, i + x, none⟩ := fun x => by
          rw [add_add, Addr.add0]; congr 1; omega
        refine ⟨_, _, _, rfl, ⟨by omega, by omega⟩, l[i + b], ?_, by unfold inR; omega, _, _, _, rfl, ⟨by omega, by omega⟩, l[i + b - 1], ?_, fun d2 => ?_⟩
        · rw [Int.toNat_natCast, at2, ← qe (i + b) (by omega) hbl]; exact own_rd hI.own (by omega)
        · rw [e2, at2, ← qe (i + b - 1) (by omega) (by omega)]
          have : i + (b - 1) = i + b - 1 := by omega
          rw [this]
          exact own_rd hI.own (by omega)
        obtain ⟨w5, ew5⟩ : ∃ w5, w5 = dr w39 d2.1 := ⟨_, rfl⟩
        have g5 : Grow w39 w5 := by rw [ew5]; exact (Grow.refl w39).dr d2.1
        rw [← ew5]
        have hdt2 := dd_take (l := l) (i := i + b) (by omega) hbl
        have hI5 : CpN w B g l.length cap l a (i + b) w5 cur := ⟨hcn, hI.kept, hI.rest, Own.grow hI.own g5, hI.fr.trans (Fr.of_grow g5)⟩
        refine condP_i (fun hne => ?_) fun heq2 => ?_
        · have hne : ¬ l[i + b] = l[i + b - 1] := by simpa using hne
          rw [if_neg hne] at hdt2
          refine ⟨_, _, _, rfl, ⟨by omega, by omega⟩, l[i + b], ?_, _, _, _, rfl, ⟨by omega, by omega⟩, ?_⟩
          · rw [Int.toNat_natCast, at2, ← qe (i + b) (by omega) hbl]; exact own_rd hI5.own (by omega)
          · rw [Int.toNat_natCast, at0]
            refine ⟨(Own.wr hI5.own (show a < l.length by omega)).1, (Own.wr hI5.own (show a < l.length by omega)).2, fun w66 hw66 => ?_⟩
            have ho66 := Own.set hI5.own (show a < l.length by omega) hw66
            have es : (cur.map VC.encI).set a (Value.int .i64 l[i + b]) = (cur.set a l[i + b]).map VC.encI := by
              rw [show Value.int .i64 l[i + b] = VC.encI l[i + b] from rfl, ← List.map_set]
            rw [es] at ho66
            refine ⟨by unfold inR; omega, by unfold inR; omega, ⟨a + 1, b + 1, cur.set a l[i + b], by omega, by omega, by omega, by omega, by omega, by omega, ⟨by simpa using hcn, ?_, fun j hj => ?_, ho66, hI5.fr.trans (set_fr hw66)⟩⟩, by first | omega | (dsimp only; omega)⟩
            · rw [← Nat.add_assoc, hdt2, ← hI.kept, List.take_succ_eq_append_getElem (by simp; omega)]
              congr 1
              · rw [List.take_set_of_le (by omega)]
              · simp
            · rw [List.getElem?_set_ne (by omega)]
              exact hI.rest j (by omega)
        · have heq2 : l[i + b] = l[i + b - 1] := by simpa using heq2
          rw [if_pos heq2, List.append_nil] at hdt2
          refine ⟨by unfold inR; omega, ⟨a, b + 1, cur, rfl, by omega, by omega, by omega, by omega, ha1, ⟨hcn, ?_, hI5.rest, hI5.own, hI5.fr⟩⟩, by first | omega | (dsimp only; omega)⟩
          rw [← Nat.add_assoc, hdt2]; exact hI.kept
      · have hbl : i + b = l.length := by omega
        refine cut_rest (a := a) (K := fun v'' w'' => ∃ v', Ending.returned v'' = .returned v' ∧ OwnI w'' B v' (dd l) ∧ Fr (fun b => (Value.slice (some ⟨g, 0, none⟩) l.length cap).ownBlock = some b) w w'' ∧ (∀ b, v'.ownBlock = some b → (Value.slice (some ⟨g, 0, none⟩) l.length cap).ownBlock = some b)) hcn hI.own (by omega) hcap fun v' w' hv hf hb => ⟨v', rfl, ?_, (hI.fr.trans hf).mono fun b' _ e => by rw [e]; rfl, fun b' hb' => by rw [hb b' hb']; rfl⟩
        have := hI.kept
        rw [hbl, List.take_length] at this
        rwa [this] at hv
    · rw [if_neg hne] at hdt
      refine ⟨by unfold inR; omega, ⟨i + 1, by omega, by omega, by omega, ?_, g0d⟩, by first | omega | (dsimp only; omega)⟩
      rw [hdt, hdd, List.take_succ_eq_append_getElem hil]
  · have hil : i = l.length := by omega
    subst hil
    rw [List.take_length] at hdd
    exact ⟨_, rfl, by rw [hdd]; exact Own.grow ho g8, Fr.of_grow g8, fun b hb => hb⟩
/-! ## DeleteFunc -/
structure DlN (w : World) (B g n cap : Nat) (l : List Int) (p : Int → Bool) (a b : Nat) (w' : World) (cur : List Int) : Prop where
  len : cur.length = n
  kept : cur.take a = (l.take b).filter fun x => !p x
  rest : ∀ i, b ≤ i → cur[i]? = l[i]?
  own : Own w' B 3 1 (.slice (some ⟨g, 0, none⟩) n cap) n (cur.map VC.encI)
  fr : Fr (fun b => b = g) w w'
theorem deleteI_c {w : World} {B : Nat} {v f : Value} {l : List Int} {p : Int → Bool} (ho : OwnI w B v l) (hf : ∃ g fst cap, f = .func (.func g) fst cap ∧ callOK g = true ∧ ∀ x ∈ l, ∀ w', Calls Tryd.prog g (fst ++ #[.int .i64 x] ++ cap) w' (Ret w' (.bool (p x)))) : Calls Tryd.prog 19 #[v, f] w fun e w' => ∃ v', e = .returned v' ∧ OwnI w' B v' (l.filter fun x => !p x) ∧ Fr (fun b => v.ownBlock = some b) w w' := by
  refine f19_calls _ _ ?_
  obtain ⟨fg, fst, fc, rfl, hok, hcall⟩ := hf
  have hle := (Own.slI ho).len_le
  refine (indexFunc_c (p := p) (Own.slI ho) ⟨fg, fst, fc, rfl, hok, fun x hx w' gg => hcall x hx w'⟩).mono ?_
  rintro e w1 ⟨rfl, g1⟩
  refine ⟨_, rfl, condD (fun h1 => ⟨v, rfl, ?_, Fr.of_grow g1⟩) fun hne => ?_⟩
  · have : (l.filter fun x => !p x) = l := by
      refine List.filter_eq_self.2 fun x hx => ?_
      have h2 := idxOf_any p l
      rw [h1] at h2
      have h3 : l.any p = false := by rw [← h2]; rfl
      have := List.any_eq_false.1 h3 x hx
      simpa using this
    rw [this]
    exact Own.grow ho g1
  have hfi : ∃ (k : Nat) (hk : k < l.length), idxOf p l = k ∧ p l[k] = true ∧ ∀ j (hj : j < l.length), j < k → p l[j] = false := by
    unfold idxOf at hne ⊢
    cases hx : l.findIdx? p with
    | none => rw [hx] at hne; exact absurd rfl hne
    | some k =>
      obtain ⟨hk, h2, h3⟩ := List.findIdx?_eq_some_iff_getElem.1 hx
      exact ⟨k, hk, rfl, h2, fun j hj hlt => by simpa using h3 j hlt⟩
  obtain ⟨k, hk, ek, hpk, hbef⟩ := hfi
  rw [ek]
  obtain ⟨g, cap, rfl, hcap, hgw⟩ := own_shape ho (by omega)
  have at0 : ∀ (x : Nat), Addr.add ⟨g, 0, none⟩ (x * 1) = ⟨g, x, none⟩ := fun x => by rw [Addr.add0]; simp
  refine ⟨by unfold inR; omega, fun i j w' => ∃ (a b : Nat) (cur : List Int), i = a ∧ j = b ∧ a + 1 ≤ b ∧ b ≤ l.length ∧ DlN w B g l.length cap l p a b w' cur, fun _ j _ => l.length - j.toNat, ⟨k, k + 1, l, rfl, rfl, by omega, by omega, ⟨rfl, ?_, fun _ _ => rfl, Own.grow ho g1, Fr.of_grow g1⟩⟩, ?_⟩
  · rw [List.take_succ_eq_append_getElem hk, List.filter_append, List.filter_cons, hpk]
    have : ((l.take k).filter fun x => !p x) = l.take k := List.filter_eq_self.2 fun x hx => by
      obtain ⟨j, hj, rfl⟩ := List.getElem_of_mem hx
      rw [List.length_take] at hj
      rw [List.getElem_take, hbef j (by omega) (by omega)]; rfl
    rw [this]
    simp
  rintro - - - w9 ⟨a, b, cur, rfl, rfl, hab, hbl, hI⟩
  have hcn := hI.len
  refine ⟨_, _, _, rfl, condD (fun hlt => ?_) fun hge => ?_⟩
  · have hb2 : b < l.length := by omega
    have qe : cur[b]'(by omega) = l[b] := by
      have := hI.rest b (Nat.le_refl _)
      rw [List.getElem?_eq_getElem (by omega), List.getElem?_eq_getElem hb2] at this
      exact Option.some.inj this
    refine ⟨_, _, _, rfl, ⟨by omega, by omega⟩, l[b], ?_, fg, fst, fc, rfl, hok, (hcall l[b] (List.getElem_mem hb2) w9).mono ?_⟩
    · rw [Int.toNat_natCast, at0, ← qe]; exact own_rd hI.own (by omega)
    rintro e w17 ⟨rfl, g17⟩
    have o17 := Own.grow hI.own g17
    have f17 := hI.fr.trans (Fr.of_grow g17)
    have hst : ∀ z, p l[b] = z → (l.take (b + 1)).filter (fun x => !p x) = (l.take b).filter (fun x => !p x) ++ (if z then [] else [l[b]]) := fun z hz => by
      rw [List.take_succ_eq_append_getElem hb2, List.filter_append, List.filter_cons, hz]
      cases z <;> simp
    refine ⟨_, rfl, condP_i (fun hn => ?_) fun hp => ?_⟩
    · have hn : p l[b] = false := by simpa using hn
      have hst := hst false hn
      rw [if_neg (by decide)] at hst
      refine ⟨_, _, _, rfl, ⟨by omega, by omega⟩, ?_⟩
      rw [Int.toNat_natCast, at0]
      refine ⟨(Own.wr o17 (show a < l.length by omega)).1, (Own.wr o17 (show a < l.length by omega)).2, fun w26 hw26 => ?_⟩
      have ho26 := Own.set o17 (show a < l.length by omega) hw26
      have es : (cur.map VC.encI).set a (Value.int .i64 l[b]) = (cur.set a l[b]).map VC.encI := by
        rw [show Value.int .i64 l[b] = VC.encI l[b] from rfl, ← List.map_set]
      rw [es] at ho26
      refine ⟨by unfold inR; omega, by unfold inR; omega, ⟨a + 1, b + 1, cur.set a l[b], by omega, by omega, by omega, by omega, ⟨by simpa using hcn, ?_, fun j hj => ?_, ho26, f17.trans (set_fr hw26)⟩⟩, by first | omega | (dsimp only; omega)⟩
      · rw [hst, ← hI.kept, List.take_succ_eq_append_getElem (by simp; omega)]
        congr 1
        · rw [List.take_set_of_le (by omega)]
        · simp
      · rw [List.getElem?_set_ne (by omega)]
        exact hI.rest j (by omega)
    · have hp : p l[b] = true := by simpa using hp
      have hst := hst true hp
      rw [if_pos rfl, List.append_nil] at hst
      exact ⟨by unfold inR; omega, ⟨a, b + 1, cur, rfl, by omega, by omega, by omega, ⟨hcn, by rw [hst]; exact hI.kept, fun i hi => hI.rest i (by omega), o17, f17⟩⟩, by first | omega | (dsimp only; omega)⟩
  · have hbl2 : b = l.length := by omega
    refine cut_rest (a := a) (K := fun v'' w'' => ∃ v', Ending.returned v'' = .returned v' ∧ OwnI w'' B v' (l.filter fun x => !p x) ∧ Fr (fun b => (Value.slice (some ⟨g, 0, none⟩) l.length cap).ownBlock = some b) w w'') hcn hI.own (by omega) hcap fun v' w' hv hf hb => ⟨v', rfl, ?_, (hI.fr.trans hf).mono fun b' _ e => by rw [e]; rfl⟩
    have := hI.kept
    rw [hbl2, List.take_length] at this
    rwa [this] at hv
end Go.Proofs.YtleiddajojgmmaaDoor
