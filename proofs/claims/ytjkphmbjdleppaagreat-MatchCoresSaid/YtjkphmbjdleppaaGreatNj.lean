/- Contract: Core, by the program. No condition. -/
import Derived.Test.YtjkphmbjdleppaaGreatNi
namespace Go.Proofs.YtjkphmbjdleppaaGreat
open Go Go.RowKit VC
set_option linter.unusedSimpArgs false
set_option linter.unusedVariables false

theorem pinX {α : Type} {k : Nat} {rep : World → List Value → α → Prop} {w0 w : World} {v : Value} {xs : List α} (h : SlX k rep w0 v xs) (g : Grow w0 w) : SlX k (fun _ cs x => rep w0 cs x) w v xs := by
  obtain ⟨a, c, e, h1, h2, h3, h4⟩ := h.ex
  exact ⟨a, c, e, h1, h2, h3, fun i hi => by
    obtain ⟨b, cs, e1, e2, e3, e4⟩ := h4 i hi
    exact ⟨b, cs, e1, e2, fun t u ht => g.cell (e3 t u ht), e4⟩⟩
theorem locPin {P : Program} {w0 w : World} {v : Value} {l : List Atm} (h : SlA w0 v l) (g : Grow w0 w) {i : Nat} {j : Int} (hj : j = (i : Int)) (hi : i < l.length) {zs : Array Value} (hz : zs.size = 2) {t : TypeId} {K : World → Prop}
    (hk : ∀ w2 u, Grow w w2 → w.heap.size < w2.heap.size → SlI w0 u l[i].2 → w2.cell? (Addr.add ⟨w.heap.size, 0, none⟩ 0) = some (.int .i64 l[i].1) → w2.cell? (Addr.add ⟨w.heap.size, 0, none⟩ 1) = some u → K w2) :
    ∃ (a : Addr) (m c : Nat), v = .slice (some a) m c ∧ ((0 : Int) ≤ j ∧ j < (m : Int)) ∧ ∃ cs : List Value, cs.length = 2 ∧ (∀ t u, cs[t]? = some u → w.cell? (Addr.add (a.add (Int.toNat j * 2)) t) = some u) ∧
      ∀ w1, w1 = w.alloc (.cells zs t) → ∃ cs' : Array Value, (Value.agg cs.toArray) = Value.agg cs' ∧ cs'.size = 2 ∧ ∃ w2 : World, (storeCells ⟨w.heap.size, 0, none⟩ cs'.toList).run P w1 = .ok () w2 ∧ K w2 := by
  refine SlX.rd (pinX h g) hj hi fun cs hl hr w1 hw1 => ?_
  obtain ⟨u, rfl, hu⟩ := hr
  have := setR (P := P) (cs := [.int .i64 l[i].1, u]) hw1 (by rw [hz]; rfl) (by
    intro y hy
    simp at hy
    rcases hy with rfl | rfl
    · rfl
    · exact hu.one.2) (K := K) fun w2 hg hs hc => hk w2 u hg hs hu (hc 0 _ rfl) (hc 1 _ rfl)
  rw [hz] at this
  exact this
/-- The next round of Core. -/
def CoreN (w4 : World) (h : List Int) (b : List Atm) (s : Nat) (x : Value) (w' : World) : Prop := inR ((s : Int) + 1) ∧ ((∃ (s' : Nat) (o : Option (List Nat)), (s : Int) + 1 = s' ∧ 1 ≤ s' ∧ s' ≤ 2 ^ b.length ∧ BestO h b s' o ∧ HomV w' x (o.map intL) ∧ Grow w4 w') ∧ 2 ^ b.length - Int.toNat ((s : Int) + 1) < 2 ^ b.length - Int.toNat (s : Int))
theorem core_c {w : World} {hv bv : Value} {h : List Int} {b : List Atm} (sh : SlI w hv h) (sb : SlA w bv b) :
    Calls Tryz.prog 14 #[.agg #[hv, bv]] w fun e w' => ∃ v o, e = .returned (.tuple #[v, .int .i64 (if okQ h b = true then 0 else 2)]) ∧ (if okQ h b = true then BestO h b (2 ^ b.length) o else o = none) ∧ HomV w' v (o.map intL) ∧ Grow w w' := by
  refine f14_calls _ ?_
  refine ⟨_, rfl, fun w1 hw1 => ?_⟩
  have g1 := alloc_grow hw1
  have s1 := alloc_size hw1
  have p0 := boxc hw1 0 hv rfl
  have p1 := boxc hw1 1 bv rfl
  refine ⟨[_, _], rfl, two p0 p1, (valid_c (sh.grow g1) (sb.gr g1)).mono ?_⟩
  rintro e w4 ⟨rfl, g4⟩
  have g04 := g1.trans g4
  refine ⟨_, rfl, condP_i (fun hn => ?_) fun hk => ?_⟩
  · have hn : ¬ okQ h b = true := by simpa using hn
    exact ⟨_, none, by rw [if_neg hn], by rw [if_neg hn], rfl, g04⟩
  have ok : okQ h b = true := by simpa using hk
  rw [if_pos ok]
  have hbl := okQ_len ok
  refine ⟨fun best set w' => ∃ (s : Nat) (o : Option (List Nat)), set = s ∧ 1 ≤ s ∧ s ≤ 2 ^ b.length ∧ BestO h b s o ∧ HomV w' best (o.map intL) ∧ Grow w4 w', fun _ set _ => 2 ^ b.length - set.toNat, ⟨1, none, rfl, by omega, Nat.one_le_two_pow, fun s h1 h2 => by omega, rfl, Grow.refl _⟩, ?_⟩
  rintro - best set w12 ⟨s, o, rfl, hs1, hs2, hB, hV, g12⟩
  have g012 := g04.trans g12
  refine ⟨_, (g4.trans g12).cell p1, SlX.ln (sb.gr g012) ⟨by omega, ?_⟩⟩
  rw [iShl_one (by omega)]
  have hM : 2 ^ b.length ≤ 2 ^ 5 := Nat.pow_le_pow_right (by omega) hbl.2.1
  refine condD (fun hlt => ?_) fun hge => ?_
  case refine_2 =>
    have hsM : ¬ s < 2 ^ b.length := fun h => hge (by exact_mod_cast h)
    have : s = 2 ^ b.length := by omega
    exact ⟨best, o, rfl, by rw [if_pos ok, ← this]; exact hB, hV, g012⟩
  have hsM : s < 2 ^ b.length := by exact_mod_cast hlt
  refine ⟨hv, (g4.trans g12).cell p0, sh.one, fun w18 hw18 => RecV.init (cs := [hv, .slice none 0 0]) hw18 rfl (by
    intro y hy
    simp at hy
    rcases hy with rfl | rfl
    · exact sh.one.2
    · rfl) fun w19 g19 s19 hC => ?_⟩
  have g019 := g012.trans g19
  refine ⟨_, ((g4.trans g12).trans g19).cell p1, SlX.ln (sb.gr g019) ?_⟩
  refine ⟨fun lv t w' => ∃ (k : Nat) (av : Value), t = k ∧ k ≤ b.length ∧ RecV w' w12.heap.size [hv, av] ∧ OwnX (fun x => w.heap.size ≤ x) 2 repA w' w19.heap.size 51 av (partN b (setL k s)) ∧ OwnI w' w19.heap.size lv (intL (setL k s)) ∧ (∀ x, lv.ownBlock = some x → av.ownBlock ≠ some x) ∧ Fr (fun i => i = w12.heap.size ∨ w19.heap.size ≤ i) w19 w', fun _ t _ => b.length - t.toNat,
    ⟨0, _, rfl, by omega, hC, OwnX.nil _ _ _, by simpa [OwnI, intL, setL] using Own.nil w19 w19.heap.size 3 1, fun x hx => (by simp [Value.ownBlock] at hx), Fr.refl _ _⟩, ?_⟩
  have hw12 := g012.size
  rintro - lv t w30 ⟨k, av, rfl, hk, hrc, hoA, hoL, hdis, hf⟩
  have g1230 : Grow w12 w30 := g19.fr hf fun i hi e => by omega
  have g030 := g012.trans g1230
  have hs30 := hf.size
  have hlen5 : (setL k s).length ≤ k := by
    have := (setL_sub k s).length_le
    rwa [List.length_range] at this
  refine condD (fun hlt2 => ?_) (fun hge2 => ?_)
  · have hkl : k < b.length := by omega
    refine locPin sb g030 rfl hkl rfl fun w36 u g36 s36 hu c0 c1 => ⟨by omega, condD (fun hbit => ?_) fun hbit => ?_⟩
    · have hbit := (bit_one (by omega)).1 hbit
      have eP : partN b (setL (k + 1) s) = partN b (setL k s) ++ [b[k]] := by
        rw [setL_succ, if_pos hbit, partN_app]
        simp [partN, List.getD, hkl]
      have eL : intL (setL (k + 1) s) = intL (setL k s) ++ [(k : Int)] := by
        rw [setL_succ, if_pos hbit, intL_app]
        rfl
      refine ⟨av, (hrc.grow g36).cell (j := 1) rfl, [_, _], rfl, two c0 c1, bs1 el_atom (by omega) (by omega) (cs := #[.int .i64 b[k].1, u]) rfl w36 fun w40 hw40 => ?_⟩
      have g40 := alloc_grow hw40
      have s40 := alloc_size hw40
      have hav : ∀ x, av.ownBlock = some x → w19.heap.size ≤ x ∧ x < w30.heap.size := fun x hx => hoA.lt hx
      have hlv : ∀ x, lv.ownBlock = some x → w19.heap.size ≤ x ∧ x < w30.heap.size := fun x hx => Own.lt hoL hx
      refine pappX1 el_atom (by omega) (cs := [.int .i64 b[k].1, u]) (y := b[k]) (hoA.grow g36) hw40 ⟨rfl, fun y hy => by
        simp at hy
        rcases hy with rfl | rfl
        · rfl
        · exact hu.one.2, fun w2 hfr => ⟨u, rfl, hu.grow ((g030.trans g36).fr hfr fun i hi e => by
          rcases e with e | e
          · omega
          · have := (hav i e.symm).1
            omega)⟩⟩ (by have := g36.size; omega) (by rw [partN, List.length_map]; omega) (by omega) ?_
      intro v2 w43 ho2 hf2 hne2 hblk
      have hs43 := hf2.size
      have hr43 : RecV w43 w12.heap.size [hv, av] := (hrc.grow (g36.trans g40)).fr hf2 fun e => by have := (hav _ e.symm).1; omega
      refine ⟨OwnX.one ho2, ⟨_, hr43.cell (j := 1) rfl⟩, hr43.free 1, fun w44 hw44 w45 hw45 => ?_⟩
      have hr44 := hr43.set hw44
      have f44 := RecV.set_fr hw44
      have hs44 := f44.size
      have g45 := alloc_grow hw45
      have s45 := alloc_size hw45
      have hv2 : ∀ x, v2.ownBlock = some x → w19.heap.size ≤ x ∧ x < w43.heap.size := fun x hx => ho2.lt hx
      have ho44 := OwnX.fr ho2 f44 (fun x hx => by rw [hx]; exact hw12) (fun x hx e => by have := (hv2 x hx).1; omega)
      have ol44 : OwnI w44 w19.heap.size lv (intL (setL k s)) := Own.fr (Own.fr (Own.grow hoL (g36.trans g40)) hf2 fun x hx e => hdis x hx e.symm) f44 fun x hx e => by have := (hlv x hx).1; omega
      refine papp1k el_int hw45 ol44 rfl (by omega) (by rw [intL_len]; omega) (by omega) ?_
      intro l2 w47 hol2 hf47 hkin
      have hd2 : ∀ x, lv.ownBlock = some x → v2.ownBlock ≠ some x := fun x hx e => by
        rcases hblk x e with h1 | h1
        · exact hdis x hx h1.symm
        · have := (hlv x hx).2
          have := g36.size
          omega
      refine ⟨by unfold inR; omega, ⟨k + 1, v2, by omega, by omega, (hr44.grow g45).fr hf47 fun e => by have := (hlv _ e.symm).1; omega, ?_, ?_, ?_, ?_⟩, by dsimp only; omega⟩
      · rw [eP]
        exact OwnX.fr (ho44.grow g45) hf47 (fun x hx => by have := (hlv x hx.symm).1; omega) (fun x hx e => hd2 x e.symm hx)
      · rw [eL]
        unfold OwnI
        rw [List.length_append, List.map_append]
        exact hol2
      · intro x hx
        rcases hkin with ⟨g, cap, e1, e2⟩ | ⟨k2, e1, e2, -⟩
        · refine hd2 x ?_
          rw [e1]
          rw [e2] at hx
          exact hx
        · rw [e1] at hx
          obtain rfl : k2 = x := by simpa using hx
          intro e
          have := (hv2 _ e).2
          omega
      · refine (hf.trans (Fr.of_grow (g36.trans g40))).trans ((hf2.mono fun x _ e => .inr (hav x e.symm).1).trans ((f44.mono fun x _ e => .inl e).trans ((Fr.of_grow g45).trans (hf47.mono fun x _ e => .inr (hlv x e.symm).1))))
    · have hbit : ¬ s.testBit k = true := fun h => hbit ((bit_one (by omega)).2 h)
      have eS : setL (k + 1) s = setL k s := by rw [setL_succ, if_neg hbit, List.append_nil]
      refine ⟨by unfold inR; omega, ⟨k + 1, av, by omega, by omega, hrc.grow g36, ?_, ?_, hdis, hf.trans (Fr.of_grow g36)⟩, by dsimp only; omega⟩
      · rw [eS]; exact hoA.grow g36
      · rw [eS]; exact Own.grow hoL g36
  · have hkl : k = b.length := by omega
    subst hkl
    have hne := setL_pos hs1 hsM
    obtain ⟨L, hL⟩ : ∃ L, L = setL b.length s := ⟨_, rfl⟩
    have sl : SlI w30 lv (intL L) := by rw [hL]; exact Own.slI hoL
    have sp : SlA w30 av (partN b L) := by rw [hL]; exact OwnX.slX hoA
    rw [← hL] at hne
    have hVl : ∀ {w'}, Grow w30 w' → HomV w' lv (some (intL L)) := fun g => ⟨sl.grow g, by
      obtain ⟨a, m, c, rfl, -⟩ := sl.rd (i := 0) (j := 0) (K := fun _ => True) rfl (by rw [intL_len]; exact hne) trivial
      exact ⟨a, m, c, rfl⟩⟩
    have g430 := g12.trans g1230
    have keep : ∀ {w'}, Grow w30 w' → (¬ Good h b L ∨ ∃ m, o = some m ∧ ¬ SLt L m) → CoreN w4 h b s best w' := fun g hn => ⟨by unfold inR; omega, ⟨s + 1, o, by omega, by omega, by omega, best_keep hB (by rw [← hL]; exact hn), hV.gr (g1230.trans g), g430.trans g⟩, by omega⟩
    have new : ∀ {w'}, Grow w30 w' → (o = none ∨ ∃ m, o = some m ∧ SLt L m) → Good h b L → CoreN w4 h b s lv w' := fun g hb hg => ⟨by unfold inR; omega, ⟨s + 1, some L, by omega, by omega, by omega, by rw [hL] at hb hg ⊢; exact best_new hs1 hB hb hg, hVl g, g430.trans g⟩, by omega⟩
    have rest : (o = none ∨ ∃ m, o = some m ∧ SLt L m) → ∃ cs1 : List Value, cs1.length = 2 ∧ (∀ j v, cs1[j]? = some v → w30.cell? (Addr.add ⟨w12.heap.size, 0, none⟩ j) = some v) ∧ Calls Tryz.prog 16 #[(Value.agg cs1.toArray)] w30 fun e w50 => ∃ t : Bool, e = .returned (.bool t) ∧ condP t
        (∃ cs2 : List Value, cs2.length = 2 ∧ (∀ j v, cs2[j]? = some v → w50.cell? (Addr.add ⟨w.heap.size, 0, none⟩ j) = some v) ∧ ∃ cs3 : List Value, cs3.length = 2 ∧ (∀ j v, cs3[j]? = some v → w50.cell? (Addr.add ⟨w12.heap.size, 0, none⟩ j) = some v) ∧ Calls Tryz.prog 17 #[(Value.agg cs2.toArray), (Value.agg cs3.toArray)] w50 fun e w55 => ∃ t2 : Value, e = .returned t2 ∧ ∃ b2 : Bool, PBinR Tryz.prog .neq 22 (.tmp 79) (.const (Value.slice none 0 0)) t2 (Value.slice none 0 0) b2 ∧ condP b2 (CoreN w4 h b s lv w55) (CoreN w4 h b s best w55))
        (CoreN w4 h b s best w50) := fun hbet => by
      refine ⟨[_, _], rfl, hrc.all, (valid_c (sh.grow g030) sp).mono ?_⟩
      rintro e w50 ⟨rfl, g50⟩
      refine ⟨_, rfl, condP_i (fun hok => ?_) fun hno => keep g50 (.inl fun hg => by rw [hg.1] at hno; cases hno)⟩
      have g150 := (g4.trans g430).trans g50
      refine ⟨[_, _], rfl, two (g150.cell p0) (g150.cell p1), [_, _], rfl, (hrc.grow g50).all, (hom_c (sh.grow (g030.trans g50)) (sb.gr (g030.trans g50)) (sh.grow (g030.trans g50)) (sp.gr g50) ok hok rfl).mono ?_⟩
      rintro e w55 ⟨v, o2, rfl, hF, hV2, g55⟩
      refine ⟨v, rfl, _, hV2.ne, condP_i (fun hs => ?_) fun hs => ?_⟩
      · cases o2 with
        | none => cases hs
        | some x => exact new (g50.trans g55) hbet ⟨hok, x, hF.1⟩
      · cases o2 with
        | none => exact keep (g50.trans g55) (.inl fun hg => hg.2.elim fun x hx => hF x hx)
        | some x => cases hs
    have hV30 := hV.gr g1230
    refine ⟨_, hV30.eq, condP_i (fun hn => ?_) fun hs => ?_⟩
    · have : o = none := by cases o <;> simp_all
      exact rest (.inl this)
    · obtain ⟨m, rfl⟩ : ∃ m, o = some m := by
        cases o with
        | none => simp at hs
        | some m => exact ⟨m, rfl⟩
      have sm : SlI w30 best (intL m) := hV30.1
      have l1 := sl.len_le
      refine sl.ln (sm.ln (condD (fun h1 => rest (.inr ⟨m, rfl, .inl (by rw [intL_len, intL_len] at h1; omega)⟩)) fun h1 => sl.ln (sm.ln (condD (fun h2 => ?_) fun h2 => keep (Grow.refl _) (.inr ⟨m, rfl, ?_⟩)))))
      · refine (compare_c sl sm).mono ?_
        rintro e w81 ⟨rfl, rfl⟩
        rw [intL_len, intL_len] at h1 h2
        refine ⟨_, rfl, condD (fun h3 => rest (.inr ⟨m, rfl, .inr ⟨by omega, h3⟩⟩)) fun h3 => keep (Grow.refl _) (.inr ⟨m, rfl, ?_⟩)⟩
        rintro (h4 | ⟨-, h4⟩)
        · omega
        · exact h3 h4
      · rw [intL_len, intL_len] at h1 h2
        rintro (h4 | ⟨h4, -⟩) <;> omega
end Go.Proofs.YtjkphmbjdleppaaGreat
