/- Contract: Freeze. No condition. -/
import Derived.Test.YtjkphmbjdleppaaNd
namespace Go.Proofs.Ytjkphmbjdleppaa
open Go Go.RowKit VC
set_option linter.unusedSimpArgs false
set_option linter.unusedVariables false

/-- The value that a term is frozen to. -/
def frz (x : Int) : Int := if x < 0 then 0 - x else 10 + x
def frzA (a : Atm) : Atm := (a.1, a.2.map frz)
theorem frz_c {w : World} {x : Int} (hx : -9 ≤ x ∧ x ≤ 7) : Calls Try.prog 77 #[.int .i64 x] w (Same w (.int .i64 (frz x))) := by
  refine f77_calls _ ?_
  refine condD (fun h => ⟨by unfold inR; omega, ?_, rfl⟩) fun h => ⟨by unfold inR; omega, ?_, rfl⟩
  · rw [frz, if_pos h]
  · rw [frz, if_neg h]
theorem frzL_succ {l : List Atm} {k : Nat} (hk : k < l.length) : (l.take (k + 1)).map frzA = (l.take k).map frzA ++ [frzA l[k]] := by rw [List.take_succ_eq_append_getElem hk, List.map_append]; rfl
theorem freeze_c {w : World} {hv bv : Value} {h : List Int} {b : List Atm} (sh : SlI w hv h) (sb : SlA w bv b) :
    Calls Try.prog 42 #[.agg #[hv, bv]] w fun e w' => ∃ fv rv, e = .returned (.tuple #[fv, rv, .int .i64 (if okQ h b = true then 0 else 2)]) ∧ SlA w' fv (if okQ h b = true then b.map frzA else []) ∧ SlI w' rv (if okQ h b = true then h.map frz else []) ∧ Grow w w' := by
  refine f42_calls _ ?_
  refine ⟨_, rfl, fun w1 hw1 => ?_⟩
  have g1 := alloc_grow hw1
  have p0 := boxc hw1 0 hv rfl
  have p1 := boxc hw1 1 bv rfl
  refine ⟨[_, _], rfl, two p0 p1, (valid_c (sh.grow g1) (sb.gr g1)).mono ?_⟩
  rintro e w4 ⟨rfl, g4⟩
  have g04 := g1.trans g4
  refine ⟨_, rfl, condP_i (fun hn => ?_) fun hk => ?_⟩
  · have hn : ¬ okQ h b = true := by simpa using hn
    exact ⟨_, _, by rw [if_neg hn], by rw [if_neg hn]; exact SlX.nil _, by rw [if_neg hn]; exact SlI.nil _, g04⟩
  have ok : okQ h b = true := by simpa using hk
  rw [if_pos ok, if_pos ok, if_pos ok]
  have hbl := okQ_len ok
  have hT := okB_term ok
  have hhd := okQ_head ok
  have oa : ∀ a ∈ b, okA a = true := fun a ha => by
    simp only [okQ, Bool.and_eq_true, List.all_eq_true] at ok
    exact ok.1.2 a ha
  refine ⟨_, g4.cell p1, SlX.ln (sb.gr g04) ?_⟩
  refine ⟨fun out t w' => ∃ k : Nat, t = k ∧ k ≤ b.length ∧ OwnF w' w4.heap.size out ((b.take k).map frzA) ∧ Grow w4 w', fun _ t _ => b.length - t.toNat, ⟨0, rfl, by omega, OwnX.nil _ _ _, Grow.refl _⟩, ?_⟩
  rintro - out t w16 ⟨k, rfl, hk, hout, g16⟩
  have g016 := g04.trans g16
  refine condD (fun hlt => ?_) (fun hge => ?_)
  · have hkl : k < b.length := by omega
    have hTk : ∀ x ∈ b[k].2, -9 ≤ x ∧ x ≤ 7 := hT _ (List.getElem_mem hkl)
    have hal := (okA_iff.1 (oa _ (List.getElem_mem hkl))).2.2.2.1
    refine SlX.loc (sb.gr g016) rfl hkl rfl fun w22 u g22 s22 hu c0 c1 => ?_
    obtain ⟨r, hr⟩ : ∃ r, r = b[k].1 := ⟨_, rfl⟩
    obtain ⟨xs, hxs⟩ : ∃ xs, xs = b[k].2 := ⟨_, rfl⟩
    have eA : frzA b[k] = (r, xs.map frz) := by rw [hr, hxs]; rfl
    rw [← hr] at c0
    rw [← hxs] at hu hTk hal
    refine ⟨r, c0, fun w25 hw25 => RecV.init (cs := [.int .i64 r, .slice none 0 0]) hw25 rfl (by
      intro y hy
      simp at hy
      rcases hy with rfl | rfl <;> rfl) fun w26 g26 s26 hC => ?_⟩
    refine ⟨u, g26.cell c1, (hu.grow g26).ln ?_⟩
    refine ⟨fun t w' => ∃ (p : Nat) (av : Value), t = p ∧ p ≤ xs.length ∧ RecV w' w22.heap.size [.int .i64 r, av] ∧ OwnI w' w26.heap.size av ((xs.take p).map frz) ∧ Fr (fun i => i = w22.heap.size ∨ w26.heap.size ≤ i) w26 w', fun t _ => xs.length - t.toNat,
      ⟨0, _, rfl, by omega, hC, by simpa [OwnI] using Own.nil w26 w26.heap.size 3 1, Fr.refl _ _⟩, ?_⟩
    rintro - t w36 ⟨p, av, rfl, hp, hrc, hown, hf⟩
    have g2236 : Grow w22 w36 := g26.fr hf fun i hi e => by omega
    refine condD (fun hlt2 => ?_) (fun hge2 => ?_)
    · have hpl : p < xs.length := by omega
      have hx := hTk _ (List.getElem_mem hpl)
      refine (hu.grow g2236).rd rfl hpl fun m => ?_
      obtain ⟨wd, ewd⟩ : ∃ wd, wd = dr w36 m := ⟨_, rfl⟩
      have gd : Grow w36 wd := by rw [ewd]; exact (Grow.refl w36).dr m
      rw [← ewd]
      have hrd := hrc.grow gd
      have hod := Own.grow hown gd
      have next : ∀ {wl : World}, wl = wd.alloc (.cells #[.int .i64 (frz xs[p])] 3) → PApp Try.prog 22 22 av (.slice (some ⟨wd.heap.size, 0, none⟩) 1 1) wl fun t w69 => oneV t ∧ (∃ old, w69.cell? (Addr.add ⟨w22.heap.size, 0, none⟩ 1) = some old) ∧ w69.frozen? (Addr.add ⟨w22.heap.size, 0, none⟩ 1) = false ∧ ∀ w70, w70 = w69.setCell (Addr.add ⟨w22.heap.size, 0, none⟩ 1) t →
          inR ((p : Int) + 1) ∧ ((∃ (p' : Nat) (av : Value), (p : Int) + 1 = p' ∧ p' ≤ xs.length ∧ RecV w70 w22.heap.size [.int .i64 r, av] ∧ OwnI w70 w26.heap.size av ((xs.take p').map frz) ∧ Fr (fun i => i = w22.heap.size ∨ w26.heap.size ≤ i) w26 w70) ∧ xs.length - Int.toNat ((p : Int) + 1) < xs.length - Int.toNat (p : Int)) := fun {wl} hwl => by
        have gl := alloc_grow hwl
        refine papp1 el_int hwl hod rfl (by have := hf.size; have := gd.size; omega) (by simp; omega) (by omega) ?_
        intro v2 w69 ho2 hf2 _
        have hne : ∀ k, some k = av.ownBlock → w26.heap.size ≤ k := fun k e => (Own.lt hown e.symm).1
        have hr2 : RecV w69 w22.heap.size [.int .i64 r, av] := (hrd.grow gl).fr hf2 fun e => by have := hne _ e; omega
        refine ⟨Own.one ho2, ⟨_, hr2.cell (j := 1) rfl⟩, hr2.free 1, fun w70 hw70 => ⟨by unfold inR; omega, ⟨p + 1, v2, by omega, by omega, hr2.set hw70, ?_, ?_⟩, by omega⟩⟩
        · have h9 : OwnI w69 w26.heap.size v2 ((xs.take (p + 1)).map frz) := by
            rw [List.take_succ_eq_append_getElem hpl, List.map_append]
            unfold OwnI
            rw [List.length_append, List.map_append]
            exact ho2
          exact Own.fr h9 (RecV.set_fr hw70) fun k hk e => by have := (Own.lt h9 hk).1; omega
        · exact (hf.trans (Fr.of_grow gd)).trans ((Fr.of_grow gl).trans ((hf2.mono fun k _ e => .inr (hne k e)).trans ((RecV.set_fr hw70).mono fun k _ e => .inl e)))
      have call : ∀ {Q : Ending → World → Prop}, Q (.returned (.int .i64 (frz xs[p]))) wd → Calls Try.prog 77 #[.int .i64 xs[p]] wd Q := fun hQ => (frz_c hx).mono (by
        rintro e E ⟨rfl, rfl⟩
        exact hQ)
      refine ⟨⟨av, hrd.cell (j := 1) rfl, _, #[], #[], rfl, by kernel_rfl, call ⟨_, rfl, fun wl hwl => next hwl⟩⟩, _, #[], #[], rfl, by kernel_rfl, call ⟨_, rfl, ⟨av, hrd.cell (j := 1) rfl, fun wl hwl => next hwl⟩, fun wl hwl => ⟨av, (hrd.grow (alloc_grow hwl)).cell (j := 1) rfl, next hwl⟩⟩⟩
    · have hpl : p = xs.length := by omega
      subst hpl
      rw [List.take_length] at hown
      have g1636 := g22.trans g2236
      have hs16 := g16.size
      have hbl2 : ∀ b, out.ownBlock = some b → b < w26.heap.size := fun b hb => by
        have := (hout.lt hb).2
        have := g22.size
        omega
      refine ⟨[_, _], rfl, hrc.all, bs1 el_fact (by omega) (by omega) (cs := #[.int .i64 r, av]) rfl w36 fun w' hw' => ?_⟩
      refine pappX1 el_fact (by omega) (cs := [.int .i64 r, av]) (y := frzA b[k]) (hout.grow g1636) hw' (by
        rw [eA]
        exact elx_own hown (fun b hb => by have hb : b < w4.heap.size := hb; omega) hbl2) (by have := g1636.size; omega) (by simp; omega) (by omega) ?_
      intro v2 w2 ho2 hf2 _ _
      refine ⟨by unfold inR; omega, ⟨k + 1, by omega, by omega, by rw [frzL_succ hkl]; exact ho2, ?_⟩, by dsimp only; omega⟩
      exact ((g16.trans g1636).trans (alloc_grow hw')).fr hf2 fun i hi e => by
        have := (hout.lt e.symm).1
        omega
  · have hkl : k = b.length := by omega
    subst hkl
    rw [List.take_length] at hout
    intro w74 hw74
    have g74 := alloc_grow hw74
    refine ⟨_, ((g4.trans g16).trans g74).cell p0, (sh.grow (g016.trans g74)).ln ?_⟩
    have hlit := Own.lit (B := w16.heap.size) (n := 0) (sz := 1) hw74 (Nat.le_refl _) (by omega) (by simp)
    refine ⟨fun row t w' => ∃ p : Nat, t = p ∧ p ≤ h.length ∧ OwnI w' w16.heap.size row ((h.take p).map frz) ∧ Grow w16 w', fun _ t _ => h.length - t.toNat, ⟨0, rfl, by omega, by simpa [OwnI] using hlit, g74⟩, ?_⟩
    rintro - row t w84 ⟨p, rfl, hp, hown, g84⟩
    refine condD (fun hlt2 => ?_) (fun hge2 => ?_)
    · have hpl : p < h.length := by omega
      have hx := hhd _ (List.getElem_mem hpl)
      refine (sh.grow (g016.trans g84)).rd rfl hpl ⟨_, #[], #[], rfl, by kernel_rfl, (frz_c (x := h[p]) (by omega)).mono ?_⟩
      rintro e E ⟨rfl, rfl⟩
      refine ⟨_, rfl, fun wl hwl => ?_⟩
      have gl := alloc_grow hwl
      refine papp1 el_int hwl hown rfl (by have := g84.size; omega) (by simp; omega) (by omega) ?_
      intro v2 w69 ho2 hf2 _
      refine ⟨by unfold inR; omega, ⟨p + 1, by omega, by omega, ?_, ?_⟩, by dsimp only; omega⟩
      · rw [List.take_succ_eq_append_getElem hpl, List.map_append]
        unfold OwnI
        rw [List.length_append, List.map_append]
        exact ho2
      · exact (g84.trans gl).fr hf2 fun i hi e => by
          have := (Own.lt hown e.symm).1
          omega
    · have hpl : p = h.length := by omega
      subst hpl
      rw [List.take_length] at hown
      exact ⟨_, _, rfl, SlA.gr (OwnX.slX hout) g84, Own.slI hown, g016.trans g84⟩
end Go.Proofs.Ytjkphmbjdleppaa
