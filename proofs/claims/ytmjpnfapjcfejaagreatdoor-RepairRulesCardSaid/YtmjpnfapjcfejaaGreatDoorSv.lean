/- Contract: the rule of Rewrite, by the program. No condition. -/
import Derived.Test.YtmjpnfapjcfejaaGreatDoorSr
import Derived.Test.YtmjpnfapjcfejaaGreatDoorSl
import Derived.Test.YtmjpnfapjcfejaaGreatDoorTa
namespace Go.Proofs.YtmjpnfapjcfejaaGreatDoor
open Go Go.RowKit VC
set_option linter.unusedSimpArgs false
set_option linter.unusedVariables false

/-! ## The rule, one fact after the other -/
section
variable (kl : Int → Nat) (L : List Atm) (n : Nat) (a0 : Atm) (rest : List Atm) (m : List Int)
/-- A fact of the block agrees, and the other atoms are certain with its numbers. -/
def oneB (g : Atm) : Bool := match fitR a0.2 g.2 m with | none => false | some m' => rewR kl L n rest m'
/-- The key of a fact agrees with the atom's. -/
def keyOk (f : Atm) : Bool := decide (f.1 = a0.1) && decide (f.2.length = a0.2.length) && (fitR (a0.2.take (kl a0.1)) f.2 m).isSome
/-- A fact by whose block the atom is answered. -/
def gdB (f : Atm) : Bool := keyOk kl a0 m f && L.all fun g => !decide (kF kl g = kF kl f) || oneB kl L n a0 rest m g
variable {kl L n a0 rest m}
theorem rewR_succ {atoms : List Atm} {i : Nat} (hi : i < atoms.length) (e : freeA kl atoms m = i) : rewR kl L (n + 1) atoms m = L.any (gdB kl L n atoms[i] (atoms.eraseIdx i) m) := by
  rw [rewR, e, fa_get hi]
  rfl
theorem fitR_cut : ∀ {xs ys m : List Int} {k : Nat}, xs.length ≤ k → fitR xs ys m = fitR xs (ys.take k) m := by
  intro xs ys m k hk
  unfold fitR
  congr 1
  induction xs generalizing ys k with
  | nil => simp
  | cons x xs ih =>
    cases ys with
    | nil => simp
    | cons y ys =>
      cases k with
      | zero => simp at hk
      | succ k =>
        rw [List.take_succ_cons, List.zip_cons_cons, List.zip_cons_cons, ← ih (by simpa using hk)]
theorem keyOk_blk {f f0 : Atm} (he : kF kl f = kF kl f0) (hl : f0.2.length = f.2.length) (h : keyOk kl a0 m f = true) : keyOk kl a0 m f0 = true := by
  unfold keyOk at h ⊢
  simp only [Bool.and_eq_true, decide_eq_true_eq] at h ⊢
  obtain ⟨⟨h1, h2⟩, h3⟩ := h
  have hr := kF_rel he
  have ht : f.2.take (kl a0.1) = f0.2.take (kl a0.1) := by
    have := (Prod.mk.inj he).2
    rw [← hr, h1] at this
    exact this
  refine ⟨⟨by rw [← hr]; exact h1, by first | omega | (dsimp only; omega)⟩, ?_⟩
  have hlen : (a0.2.take (kl a0.1)).length ≤ kl a0.1 := by rw [List.length_take]; omega
  rw [fitR_cut hlen] at h3
  rw [fitR_cut hlen, ← ht]
  exact h3
theorem gd_blk {j : Nat} (hlen : ∀ f ∈ L, ∀ g ∈ L, f.1 = g.1 → f.2.length = g.2.length) (hj : j < L.length) (h : gdB kl L n a0 rest m (fa L j) = true) : gdB kl L n a0 rest m (fa L (blkN kl L j)) = true := by
  obtain ⟨-, he, -⟩ := blk_spec (kl := kl) hj
  unfold gdB at h ⊢
  rw [Bool.and_eq_true] at h ⊢
  refine ⟨keyOk_blk he.symm (hlen _ (fa_mem (blk_lt hj)) _ (fa_mem hj) (kF_rel he)) h.1, ?_⟩
  rw [he]
  exact h.2
theorem any_none (hlen : ∀ f ∈ L, ∀ g ∈ L, f.1 = g.1 → f.2.length = g.2.length) (h : ∀ j, j < L.length → blkN kl L j = j → gdB kl L n a0 rest m (fa L j) = false) : L.any (gdB kl L n a0 rest m) = false := by
  rw [← Bool.not_eq_true, List.any_eq_true]
  rintro ⟨f, hf, hg⟩
  obtain ⟨j, hj, rfl⟩ := List.getElem_of_mem hf
  rw [← fa_get hj] at hg
  have h1 := gd_blk hlen hj hg
  rw [h _ (blk_lt hj) (blk_blk hj)] at h1
  cases h1
end
theorem erase_cut {α : Type} (l : List α) (i : Nat) : l.eraseIdx i = l.take i ++ l.drop (i + 1) := List.eraseIdx_eq_take_drop_succ l i
theorem erase_map {α β : Type} (f : α → β) (l : List α) (i : Nat) : (l.map f).eraseIdx i = (l.eraseIdx i).map f := by
  rw [erase_cut, erase_cut, List.map_append, List.map_take, List.map_drop]
/-! ## What a number of the state must be -/
/-- Numbers from 1 on, or 0. -/
theorem posM_fit {xs ys m m' : List Int} (hx : ∀ x ∈ xs, x ≤ 7) (hy : ∀ y ∈ ys, 1 ≤ y) (h8 : m.length = 8) (hp : PosM m) (hl : xs.length ≤ ys.length) (h : fitR xs ys m = some m') : PosM m' := by
  obtain ⟨a, b, c, d⟩ := fitR_sound hx hy h8 hl h
  intro x
  by_cases h1 : mg m' x = 0
  · rw [h1]; exact Int.le_refl _
  · rcases (d x).1 h1 with h2 | h2
    · rw [b x h2]; exact hp x
    · obtain ⟨k, hk, e⟩ := List.getElem_of_mem h2
      have hky : k < ys.length := by omega
      have h3 : (xs.map (tV (mg m')))[k]? = (ys.take xs.length)[k]? := by rw [c]
      rw [List.getElem?_map, List.getElem?_eq_getElem hk, List.getElem?_take_of_lt hk, List.getElem?_eq_getElem hky, e] at h3
      have h3 : tV (mg m') ((x : Nat) : Int) = ys[k] := by simpa using h3
      rw [tV_nat] at h3
      rw [h3]
      have := hy _ (List.getElem_mem hky)
      omega
theorem certR_c {s : List Int} {L : List Atm} (hS : okS s = true) (hR : okR s L = true) : ∀ (n : Nat) (atoms : List Atm) (m : List Int) (w : World) (sv fv lv : Value), atoms.length = n → SlI w sv s → SlA w fv L → SlTA w lv (atoms.map (tsub m)) → Tab w → (∀ a ∈ atoms, okA a = true) → keyB s atoms = true → PlainA atoms → atoms.Nodup → atoms.length ≤ 5 → m.length = 8 → PosM m → Acy (klS s) atoms (domM m) →
    Calls Tryz.prog 71 #[.agg #[sv, fv], lv] w (Ret w (.bool (rewR (klS s) L n atoms m))) := by
  have hF := okR_all hR
  obtain ⟨-, h12, -, hnd, hlen⟩ := okR_out hR
  have hFp : ∀ f ∈ L, ∀ y ∈ f.2, 1 ≤ y := fun f hf y hy => (okF_iff.1 (hF f hf)).2.2.2.2 y hy |>.1
  intro n
  induction n with
  | zero =>
    intro atoms m w sv fv lv hn hs hl sl hT hA hK hpl hndA h5 h8 hp hac
    have hl0 : (atoms.map (tsub m)).length = 0 := by rw [List.length_map]; exact hn
    refine f71_calls _ _ ⟨_, rfl, fun w1 hw1 => SlX.ln sl (cT (decide_eq_true (by rw [hl0]; rfl)) ⟨rfl, alloc_grow hw1⟩)⟩
  | succ n ih =>
    intro atoms m w sv fv lv hn hs hl sl hT hA hK hpl hndA h5 h8 hp hac
    have hlm : (atoms.map (tsub m)).length = n + 1 := by rw [List.length_map]; exact hn
    have hA3 : ∀ a ∈ atoms, a.2.length ≤ 3 := fun a ha => (okA_iff.1 (hA a ha)).2.2.2.1
    refine f71_calls _ _ ⟨_, rfl, fun w1 hw1 => SlX.ln sl (cF (decide_eq_false (by rw [hlm]; omega)) fun d => ?_)⟩
    have g1 := alloc_grow hw1
    have gd : Grow w1 (dr w1 d.1) := (Grow.refl w1).dr d.1
    have g0d := g1.trans gd
    have hB1 := RecV.new hw1
    refine ⟨_, (hB1.grow gd).cell (j := 0) rfl, (query_c (sl.gr g0d) (fun a ha => ?_) (by rw [hlm]; omega)).mono ?_⟩
    · obtain ⟨b, hb, rfl⟩ := List.mem_map.1 ha
      simpa [tsub] using hA3 b hb
    rintro e w8 ⟨bv, rfl, hbv, g8⟩
    have g08 := g0d.trans g8
    refine ⟨_, rfl, g8, (attacks_c (hs.grow g08) hbv hS (okA_q hp hA) (by rw [List.length_map, hlm]; omega) (keyB_q hK)).mono ?_⟩
    rw [varsOf_q h8 hp, keysOf_q h8 hp]
    rintro e w11 ⟨av, rfl, hav, g11⟩
    have g011 := g08.trans g11
    have g111 := (gd.trans g8).trans g11
    obtain ⟨V, eV⟩ : ∃ V, V = atoms.map (VM m) := ⟨_, rfl⟩
    obtain ⟨K, eK⟩ : ∃ K, K = atoms.map (KM (klS s) m) := ⟨_, rfl⟩
    rw [← eV, ← eK] at hav
    have hVl : V.length = atoms.length := by rw [eV, List.length_map]
    have hat : SlT w11 av (attR V K) := Own.slR hav
    refine ⟨_, rfl, g11, SlR.ln hat ?_⟩
    have hale : (attR V K).length ≤ 25 := by
      have h1 := atF_le V K V.length
      have h2 : V.length * V.length ≤ 5 * 5 := Nat.mul_le_mul (by omega) (by omega)
      unfold attR
      omega
    have hlt32 : ∀ k, hitP ((attR V K).take k) < 32 := fun k => by
      have h1 := hitR_lt (V := V) (K := K) k
      have h2 : 2 ^ V.length ≤ 2 ^ 5 := Nat.pow_le_pow_right (by omega) (by omega)
      omega
    refine ⟨fun hit t w' => ∃ k : Nat, t = k ∧ k ≤ (attR V K).length ∧ hit = (hitP ((attR V K).take k) : Nat) ∧ Grow w11 w', fun _ t _ => (attR V K).length - t.toNat, ⟨0, rfl, by omega, rfl, Grow.refl _⟩, ?_⟩
    rintro - hit t w22 ⟨k, rfl, hk, rfl, g22⟩
    refine condD (fun hlt => ?_) fun hge => ?_
    · have hkl : k < (attR V K).length := by omega
      obtain ⟨f, g, hf, hg, ha, e⟩ := mem_attR.1 (List.getElem_mem hkl)
      refine locF opF_len opF_one hat g22 rfl hkl rfl fun w28 g28 s28 hr => ⟨by omega, (g : Int), hr.cell (j := _) (by rw [e]; rfl), by omega, by unfold inR; omega, ⟨k + 1, by omega, by omega, ?_, g22.trans g28⟩, by first | omega | (dsimp only; omega)⟩
      have hlt := hlt32 k
      have hg5 : g < 5 := by omega
      have hpw : 2 ^ g < 2 ^ 5 := Nat.pow_lt_pow_right (by omega) hg5
      rw [List.take_succ_eq_append_getElem hkl, hitP_app, e, iShl_one (by omega), iOr_nat (by omega) (by omega)]
      rfl
    -- the first atom that nothing attacks
    have hkn : k = (attR V K).length := by omega
    rw [hkn, List.take_length]
    obtain ⟨hi, -, hno, hall⟩ := freeA_spec (kl := klS s) h8 hA hpl hndA hac (fun e => by subst e; simp at hn)
    rw [← eV, ← eK] at hno hall
    obtain ⟨i, ei⟩ : ∃ i, i = freeA (klS s) atoms m := ⟨_, rfl⟩
    rw [← ei] at hi hno hall
    rw [rewR_succ hi ei.symm]
    have hiV : i < V.length := by omega
    have hT22 := hT.grow (g011.trans g22)
    have hb0 : (hitP (attR V K)).testBit i = false := by
      rw [← Bool.not_eq_true, hitR_bit hiV]
      rintro ⟨f, hf, ha⟩
      rw [hno f (by omega)] at ha
      cases ha
    have hb1 : ∀ j, j < i → (hitP (attR V K)).testBit j = true := fun j hj => by
      rw [hitR_bit (by omega)]
      obtain ⟨f, hf, ha⟩ := hall j hj
      exact ⟨f, by omega, ha⟩
    have h32 := hlt32 (attR V K).length
    rw [List.take_length] at h32
    refine (fz_c h32 (by omega) hb0 hb1 hT22).mono ?_
    rintro e w31 ⟨rfl, g31⟩
    have g031 := (g011.trans g22).trans g31
    have g131 := (g111.trans g22).trans g31
    have hil : i < (atoms.map (tsub m)).length := by omega
    have ei2 : (atoms.map (tsub m))[i] = tsub m atoms[i] := List.getElem_map ..
    refine ⟨_, rfl, locT sl g031 rfl hil rfl fun w39 u g39 s39 hu hc d2 => ?_⟩
    rw [ei2] at hu hc
    obtain ⟨a0, ea0⟩ : ∃ a0, a0 = atoms[i] := ⟨_, rfl⟩
    rw [← ea0] at hu hc ⊢
    have hu : SlP w u (a0.2.map (tmM m)) := hu
    have hc : RecV w39 w31.heap.size [.int .i64 a0.1, u] := hc
    have gd2 : Grow w39 (dr w39 d2.1) := (Grow.refl w39).dr d2.1
    have g039 := (g031.trans g39).trans gd2
    obtain ⟨pa, pn, pc, pe, pl, ph, pm, pb, hs1⟩ := SlX.upto3 sl (ik := .i64) (jk := .i64) (z := (i : Int)) (z' := (i : Int)) (K := fun x => SlTA w x ((atoms.map (tsub m)).take i)) rfl rfl (by omega : i ≤ (atoms.map (tsub m)).length) fun v' h => h
    obtain ⟨qa, qn, qc, qe, ql, qh, qm, qb, hs2⟩ := SlX.from_ sl (i := i + 1) (ik := .i64) (z := (i : Int) + 1) (K := fun x => SlTA w x ((atoms.map (tsub m)).drop (i + 1))) (by omega) (by omega) fun v' h => h
    refine ⟨pa, pn, pc, pe, pl, ph, pm, pb, by unfold inR; omega, qa, qn, qc, qe, ql, qh, qm, qb, hs1.one, hs2.one, fun w54 hw54 => ?_⟩
    have g54 := alloc_grow hw54
    have g054 := g039.trans g54
    have hlit := Own.lit (B := (dr w39 d2.1).heap.size) (n := 2) (sz := 1) hw54 (Nat.le_refl _) (by omega) (by simp)
    refine (concatT_c (l1 := (atoms.map (tsub m)).take i) (l2 := (atoms.map (tsub m)).drop (i + 1)) hlit.slC (hs1.gr g054) (hs2.gr g054) (by simp; omega)).mono ?_
    rw [← erase_cut, erase_map]
    rintro e w55 ⟨ov, rfl, hov, g55⟩
    have g055 := g054.trans g55
    have g155 := ((((g131.trans g39).trans gd2).trans g54).trans g55)
    have g3955 := (gd2.trans g54).trans g55
    have hB55 := hB1.grow g155
    have hc55 := hc.grow g3955
    obtain ⟨rest, erest⟩ : ∃ rest, rest = atoms.eraseIdx i := ⟨_, rfl⟩
    rw [← erest] at hov ⊢
    have hrm : ∀ a, a ∈ rest → a ∈ atoms := fun a ha => List.mem_of_mem_eraseIdx (erest ▸ ha)
    have hrl : rest.length = n := by rw [erest, List.length_eraseIdx, if_pos hi]; omega
    have ha0 : a0 ∈ atoms := ea0 ▸ List.getElem_mem hi
    have oA0 := okA_iff.1 (hA a0 ha0)
    have hk0 : klS s a0.1 ≤ a0.2.length := of_decide_eq_true (List.all_eq_true.1 hK a0 ha0)
    obtain ⟨hsi, hse, -⟩ := okS_get hS oA0.1 oA0.2.1
    refine ⟨_, rfl, g55, _, hB55.cell (j := 1) rfl, SlX.ln (hl.gr g055) ?_⟩
    refine ⟨fun t w' => ∃ k : Nat, t = k ∧ k ≤ L.length ∧ (∀ j, j < k → blkN (klS s) L j = j → gdB (klS s) L n a0 rest m (fa L j) = false) ∧ Grow w55 w', fun t _ => L.length - t.toNat, ⟨0, rfl, by omega, fun j hj => by omega, Grow.refl _⟩, ?_⟩
    rintro - t w66 ⟨k, rfl, hk, hbad, g66⟩
    have g066 := g055.trans g66
    refine condD (fun hlt => ?_) fun hge => ?_
    rotate_left
    · have hkn : k = L.length := by omega
      subst hkn
      exact ⟨by rw [any_none hlen hbad], g066⟩
    have hkl : k < L.length := by omega
    have hfa : fa L k = L[k] := fa_get hkl
    refine locR hl g066 rfl hkl rfl fun w72 fu g72 s72 hfu hfc => ?_
    have g072 := g066.trans g72
    have g5572 := g66.trans g72
    have next : ∀ {w'}, Grow w72 w' → (blkN (klS s) L k = k → gdB (klS s) L n a0 rest m (fa L k) = false) → inR ((k : Int) + 1) ∧ ((∃ k' : Nat, (k : Int) + 1 = k' ∧ k' ≤ L.length ∧ (∀ j, j < k' → blkN (klS s) L j = j → gdB (klS s) L n a0 rest m (fa L j) = false) ∧ Grow w55 w') ∧ L.length - Int.toNat ((k : Int) + 1) < L.length - Int.toNat (k : Int)) := fun g h =>
      ⟨by unfold inR; omega, ⟨k + 1, by omega, by omega, fun j hj hb => by
        by_cases e : j = k
        · subst e; exact h hb
        · exact hbad j (by omega) hb, g5572.trans g⟩, by first | omega | (dsimp only; omega)⟩
    have noKey : keyOk (klS s) a0 m L[k] = false → (blkN (klS s) L k = k → gdB (klS s) L n a0 rest m (fa L k) = false) := fun h _ => by
      rw [hfa, gdB, h, Bool.false_and]
    refine ⟨_, hfc.cell (j := 0) rfl, _, (hc55.grow g5572).cell (j := 0) rfl, condP_i (fun hne => next (Grow.refl _) (noKey ?_)) fun heq => ?_⟩
    · have hne : L[k].1 ≠ a0.1 := by simpa using hne
      rw [keyOk, decide_eq_false hne]; rfl
    have heq : L[k].1 = a0.1 := by simpa using heq
    refine ⟨[_, _], rfl, (hB55.grow g5572).all, (block_c (hs.grow g072) (hl.gr g072) hR hkl).mono ?_⟩
    rintro e w77 ⟨rfl, g77⟩
    have g077 := g072.trans g77
    have g5577 := g5572.trans g77
    refine ⟨_, rfl, condP_i (fun hne => next g77 fun hb => absurd hb ?_) fun hb => ?_⟩
    · have hne : (blkN (klS s) L k : Int) ≠ (k : Int) := by simpa using hne
      omega
    have hb : blkN (klS s) L k = k := by
      have hb : (blkN (klS s) L k : Int) = (k : Int) := by simpa using hb
      omega
    intro d3
    have gd3 : Grow w77 (dr w77 d3.1) := (Grow.refl w77).dr d3.1
    have g55d := g5577.trans gd3
    have g0d3 := g077.trans gd3
    have hcd := hc55.grow g55d
    refine ⟨[_, _], rfl, hcd.all, [_, _], rfl, (hfc.grow (g77.trans gd3)).all, _, (hB55.grow g55d).cell (j := 0) rfl, _, hcd.cell (j := 0) rfl, (hs.grow g0d3).rd (by omega) hsi ⟨_, hcd.cell (j := 1) rfl, SlR.ln hu ?_⟩⟩
    rw [List.length_map, hse, if_neg (by omega)]
    refine (agrees_c (SlR.grow hu g0d3) (hfu.grow g0d3) oA0.2.2.2.2 (hFp _ (List.getElem_mem hkl)) h8 hp hk0).mono ?_
    rintro e w93 ⟨g93, hres⟩
    have g7293 := (g77.trans gd3).trans g93
    have g5593 := g55d.trans g93
    have g093 := g0d3.trans g93
    cases ho : (if a0.2.length = L[k].2.length then fitR (a0.2.take (klS s a0.1)) L[k].2 m else none) with
    | none =>
      rw [ho] at hres
      obtain ⟨mv, rfl⟩ := hres
      refine ⟨_, _, rfl, g93, cT rfl (next g7293 (noKey ?_))⟩
      unfold keyOk
      split at ho
      · rw [ho]; simp
      · rename_i hne
        have : decide (L[k].2.length = a0.2.length) = false := decide_eq_false fun e => hne e.symm
        rw [this]; simp
    | some mk =>
      rw [ho] at hres
      obtain ⟨mb, kv, rfl, -, -⟩ := hres
      have hkey : keyOk (klS s) a0 m L[k] = true := by
        unfold keyOk
        split at ho
        · rename_i he
          rw [ho, decide_eq_true heq, decide_eq_true he.symm]; rfl
        · cases ho
      refine ⟨_, _, rfl, g93, cF rfl ⟨_, (hB55.grow g5593).cell (j := 1) rfl, SlX.ln (hl.gr g093) ?_⟩⟩
      refine ⟨fun whole t w' => ∃ j : Nat, t = j ∧ j ≤ L.length ∧ whole = (L.take j).all (fun g => !decide (kF (klS s) g = kF (klS s) L[k]) || oneB (klS s) L n a0 rest m g) ∧ Grow w93 w', fun _ t _ => L.length - t.toNat, ⟨0, rfl, by omega, rfl, Grow.refl _⟩, ?_⟩
      rintro - whole t w106 ⟨j, rfl, hj, hwhole, g106⟩
      have g0106 := g093.trans g106
      have g55106 := g5593.trans g106
      refine condD (fun hlt2 => ?_) fun hge2 => ?_
      · have hjl : j < L.length := by omega
        refine locR hl g0106 rfl hjl rfl fun w112 gu g112 s112 hgu hgc => ?_
        have g0112 := g0106.trans g112
        have g55112 := g55106.trans g112
        have hstep : (L.take (j + 1)).all (fun g => !decide (kF (klS s) g = kF (klS s) L[k]) || oneB (klS s) L n a0 rest m g) = (whole && (!decide (kF (klS s) L[j] = kF (klS s) L[k]) || oneB (klS s) L n a0 rest m L[j])) := by
          rw [List.take_succ_eq_append_getElem hjl, List.all_append, hwhole]
          simp
        refine ⟨[_, _], rfl, (hB55.grow g55112).all, (block_c (hs.grow g0112) (hl.gr g0112) hR hjl).mono ?_⟩
        rintro e w115 ⟨rfl, g115⟩
        have g0115 := g0112.trans g115
        have g55115 := g55112.trans g115
        have go : ∀ {w'} {b : Bool}, Grow w115 w' → b = (L.take (j + 1)).all (fun g => !decide (kF (klS s) g = kF (klS s) L[k]) || oneB (klS s) L n a0 rest m g) → inR ((j : Int) + 1) ∧ ((∃ j' : Nat, (j : Int) + 1 = j' ∧ j' ≤ L.length ∧ b = (L.take j').all (fun g => !decide (kF (klS s) g = kF (klS s) L[k]) || oneB (klS s) L n a0 rest m g) ∧ Grow w93 w') ∧ L.length - Int.toNat ((j : Int) + 1) < L.length - Int.toNat (j : Int)) := fun g h =>
          ⟨by unfold inR; omega, ⟨j + 1, by omega, by omega, h, ((g106.trans g112).trans g115).trans g⟩, by first | omega | (dsimp only; omega)⟩
        have hsame : blkN (klS s) L j = k ↔ kF (klS s) L[j] = kF (klS s) L[k] := by
          have := blk_eq (kl := klS s) hjl hkl
          rw [hb, fa_get hjl, fa_get hkl] at this
          exact this
        refine ⟨_, rfl, condP_i (fun hne => go (Grow.refl _) ?_) fun hbe => ?_⟩
        · have hne : ¬ kF (klS s) L[j] = kF (klS s) L[k] := fun e => by
            have hne : (blkN (klS s) L j : Int) ≠ (k : Int) := by simpa using hne
            have := hsame.2 e
            omega
          rw [hstep, decide_eq_false hne]
          simp
        have hbe : kF (klS s) L[j] = kF (klS s) L[k] := hsame.1 (by
          have hbe : (blkN (klS s) L j : Int) = (k : Int) := by simpa using hbe
          omega)
        rw [decide_eq_true hbe] at hstep
        simp only [Bool.not_true, Bool.false_or] at hstep
        have hgl : a0.2.length = L[j].2.length := by
          have h1 := hlen _ (List.getElem_mem hjl) _ (List.getElem_mem hkl) (kF_rel hbe)
          unfold keyOk at hkey
          simp only [Bool.and_eq_true, decide_eq_true_eq] at hkey
          omega
        have hc115 := hc55.grow g55115
        refine ⟨[_, _], rfl, hc115.all, [_, _], rfl, (hgc.grow g115).all, _, hc115.cell (j := 1) rfl, SlR.ln hu ?_⟩
        rw [List.length_map]
        refine (agrees_c (many := a0.2.length) (SlR.grow hu g0115) (hgu.grow g0115) oA0.2.2.2.2 (hFp _ (List.getElem_mem hjl)) h8 hp (Nat.le_refl _)).mono ?_
        rw [if_pos hgl, List.take_length]
        rintro e w124 ⟨g124, hres2⟩
        cases ho2 : fitR a0.2 L[j].2 m with
        | none =>
          rw [ho2] at hres2
          obtain ⟨mv, rfl⟩ := hres2
          have hone : oneB (klS s) L n a0 rest m L[j] = false := by rw [oneB, ho2]
          rw [hone, Bool.and_false] at hstep
          refine ⟨_, _, rfl, fun d4 => ?_⟩
          have gd4 : Grow w124 (dr w124 d4.1) := (Grow.refl w124).dr d4.1
          exact condP_i (fun _ => cF rfl (go (g124.trans gd4) hstep.symm)) fun _ => go (g124.trans gd4) hstep.symm
        | some m' =>
          rw [ho2] at hres2
          obtain ⟨mb2, kv2, rfl, hmI, hN⟩ := hres2
          have hone : oneB (klS s) L n a0 rest m L[j] = rewR (klS s) L n rest m' := by rw [oneB, ho2]
          rw [hone] at hstep
          refine ⟨_, _, rfl, fun d4 => ?_⟩
          have gd4 : Grow w124 (dr w124 d4.1) := (Grow.refl w124).dr d4.1
          refine condP_i (fun hw => cT rfl ?_) fun hw => go (g124.trans gd4) (by rw [hstep, hw]; rfl)
          rw [hw, Bool.true_and] at hstep
          have hx7 : ∀ x ∈ a0.2, x ≤ 7 := fun x hx => (oA0.2.2.2.2 x hx).2
          have hy1 := hFp _ (List.getElem_mem hjl)
          obtain ⟨k8, keep, -, dom⟩ := fitR_sound hx7 hy1 h8 (by omega) ho2
          have g55d4 := (g55115.trans g124).trans gd4
          have g0d4 := (g0115.trans g124).trans gd4
          refine ⟨[_, _], rfl, (hB55.grow g55d4).all, (with_c (atoms := rest) (hov.gr g55d4) (hmI.grow gd4) hN keep hp (fun a ha => hA3 a (hrm a ha)) (by omega)).mono ?_⟩
          rintro e w130 ⟨wv, rfl, hwv, g130⟩
          have g0130 := g0d4.trans g130
          have hrest : ∀ a, a ∈ rest ↔ a ∈ atoms ∧ a ≠ a0 := fun a => by rw [erest, erase_mem hndA hi, ea0]
          have hac' : Acy (klS s) rest (domM m') := (hac.sub hrest).congr fun x => dom x
          refine ⟨_, rfl, g130, (ih rest m' w130 sv fv wv hrl (hs.grow g0130) (hl.gr g0130) hwv (hT.grow g0130) (fun a ha => hA a (hrm a ha)) ?_ ?_ ?_ (by omega) k8 (posM_fit hx7 hy1 h8 hp (by omega) ho2) hac').mono ?_⟩
          · exact List.all_eq_true.2 fun a ha => List.all_eq_true.1 hK a (hrm a ha)
          · exact fun a ha b hb e => hpl a (hrm a ha) b (hrm b hb) e
          · rw [erest]
            exact List.Pairwise.sublist (List.eraseIdx_sublist ..) hndA
          · rintro e w133 ⟨rfl, g133⟩
            exact ⟨_, rfl, g133, go (((g124.trans gd4).trans g130).trans g133) hstep.symm⟩
      · have hjn : j = L.length := by omega
        rw [hjn, List.take_length] at hwhole
        have hgd : gdB (klS s) L n a0 rest m L[k] = whole := by rw [gdB, hkey, Bool.true_and, hwhole]
        refine condP_i (fun hw => ⟨?_, g0106⟩) fun hw => next (g7293.trans g106) fun _ => by rw [hfa, hgd, hw]
        have : L.any (gdB (klS s) L n a0 rest m) = true := List.any_eq_true.2 ⟨L[k], List.getElem_mem hkl, by rw [hgd, hw]⟩
        rw [this]
end Go.Proofs.YtmjpnfapjcfejaaGreatDoor

/- Contract: Rewrite. The table of bits is laid (Tab). -/
namespace Go.Proofs.YtmjpnfapjcfejaaGreatDoor
open Go Go.RowKit VC
set_option linter.unusedSimpArgs false
set_option linter.unusedVariables false

/-- What Rewrite returns. -/
def rewO (s h : List Int) (b L : List Atm) : Bool × Int :=
  if okR s L = true ∧ h.length = 0 then (if askN s h b = 0 then (if mutB (varsOf b) (keysOf s b) = true then (false, 7) else (rewR (klS s) L b.length b m0, 0)) else (false, askN s h b)) else (false, 2)
theorem vars_m0 (b : List Atm) : b.map (VM m0) = varsOf b := by
  have := VG_0 b
  rw [← goneN_m0] at this
  exact this
theorem keys_m0 (s : List Int) (b : List Atm) : b.map (KM (klS s) m0) = keysOf s b := by
  have := KG_0 s b
  rw [← goneN_m0] at this
  exact this
theorem vk_m0 {s : List Int} {b : List Atm} (hA : ∀ a ∈ b, okA a = true) : VK_ (klS s) b (domM m0) (varsOf b) (keysOf s b) := by
  have := vk_of (kl := klS s) (m := m0) rfl hA
  rwa [vars_m0, keys_m0] at this
theorem acy_m0 {s : List Int} {b : List Atm} (hA : ∀ a ∈ b, okA a = true) (hP : plnB b = true) : Acy (klS s) b (domM m0) ↔ mutB (varsOf b) (keysOf s b) = false := by
  rw [acy_mut (vk_m0 hA) (plnB_iff hP).1 (plnB_iff hP).2, ← Bool.not_eq_true, mutB_iff]
theorem rank_m0 {s : List Int} {b : List Atm} (hA : ∀ a ∈ b, okA a = true) (hP : plnB b = true) : ¬ mutN (varsOf b) (keysOf s b) → ∃ rk : Nat → Nat, ∀ f g, f < (varsOf b).length → g < (varsOf b).length → attN (varsOf b) (keysOf s b) f g = true → rk f < rk g :=
  rank_or (vk_m0 hA) (plnB_iff hP).1 (plnB_iff hP).2
theorem RewriteP_c {w : World} {sv fv hv bv : Value} {s h : List Int} {b L : List Atm} (hs : SlI w sv s) (hl : SlA w fv L) (hh : SlI w hv h) (hb : SlA w bv b) (hT : Tab w) :
    Calls Tryz.prog 34 #[sv, fv, .agg #[hv, bv]] w (Ret w (.tuple #[.bool (rewO s h b L).1, .int .i64 (rewO s h b L).2])) := by
  refine f34_calls _ _ _ ⟨_, rfl, fun w1 hw1 => ?_⟩
  have g1 := alloc_grow hw1
  have hQ := RecV.new hw1
  refine (read_c (hs.grow g1) (hl.gr g1)).mono ?_
  rintro e w3 ⟨x, y, rfl, ox, oy, hxy, g3⟩
  have g03 := g1.trans g3
  have no : ∀ {w'} {z : Int}, Grow w w' → rewO s h b L = (false, z) → Ret w (.tuple #[.bool (rewO s h b L).1, .int .i64 (rewO s h b L).2]) (.returned (.tuple #[.bool false, .int .i64 z])) w' := fun g e => ⟨by rw [e], g⟩
  refine ⟨_, _, rfl, fun w7 hw7 => RecV.init (cs := [x, y]) hw7 rfl (by
    intro u hu
    simp at hu
    rcases hu with rfl | rfl
    · exact ox.2
    · exact oy.2) fun w8 g8 s8 hB => ?_⟩
  have g18 := g3.trans g8
  have g08 := g1.trans g18
  refine condP_i (fun hn => no g08 ?_) fun hok => ?_
  · have hn : ¬ okR s L = true := by simpa using hn
    rw [rewO, if_neg fun h => hn h.1]
  have hok : okR s L = true := by simpa using hok
  obtain ⟨rfl, rfl⟩ := hxy hok
  have hQ8 := hQ.grow g18
  refine ⟨_, hQ8.cell (j := 0) rfl, hh.ln (condD (fun hpos => no g08 ?_) fun hz => ?_)⟩
  · rw [rewO, if_neg fun h => by omega]
  have hz : h.length = 0 := by omega
  have e1 : rewO s h b L = (if askN s h b = 0 then (if mutB (varsOf b) (keysOf s b) = true then (false, 7) else (rewR (klS s) L b.length b m0, 0)) else (false, askN s h b)) := by rw [rewO, if_pos ⟨hok, hz⟩]
  refine ⟨[_, _], rfl, hQ8.all, (askedN_c (hs.grow g08) (hh.grow g08) (hb.gr g08)).mono ?_⟩
  rintro e w15 ⟨rfl, g15⟩
  have g115 := g18.trans g15
  have g015 := g1.trans g115
  refine ⟨_, rfl, condP_i (fun hne => no g015 ?_) fun h0 => ?_⟩
  · have hne : ¬ askN s h b = 0 := by simpa using hne
    rw [e1, if_neg hne]
  have h0 : askN s h b = 0 := by simpa using h0
  rw [if_pos h0] at e1
  obtain ⟨hS, hq, hK, hP⟩ := askN_ok h0
  have hA := okQ_all hq
  have h5 := (okQ_len hq).2.1
  intro d
  have gd : Grow w15 (dr w15 d.1) := (Grow.refl w15).dr d.1
  have g1d := g115.trans gd
  have g0d := g1.trans g1d
  have hQd := hQ.grow g1d
  refine ⟨[_, _], rfl, hQd.all, _, hQd.cell (j := 1) rfl, SlX.ln hb ((attacks_c (hs.grow g0d) (hb.gr g0d) hS hA h5 hK).mono ?_)⟩
  rintro e w24 ⟨av, rfl, hav, g24⟩
  have hVl : (varsOf b).length = b.length := by simp [varsOf]
  have g0_24 := g0d.trans g24
  have hci := circle_c (V := varsOf b) (K := keysOf s b) (Own.slR hav) (by omega) (rank_m0 hA hP)
  rw [hVl] at hci
  refine ⟨_, rfl, g24, hci.mono ?_⟩
  rintro e w27 ⟨rfl, g27⟩
  have g0_27 := g0_24.trans g27
  refine ⟨_, rfl, g27, condP_i (fun hm => no g0_27 ?_) fun hm => ?_⟩
  · rw [e1, if_pos hm]
  rw [if_neg (by rw [hm]; decide)] at e1
  intro d2
  have gd2 : Grow w27 (dr w27 d2.1) := (Grow.refl w27).dr d2.1
  have g1d2 := ((g1d.trans g24).trans g27).trans gd2
  have g0d2 := g1.trans g1d2
  have g8d2 := (((g15.trans gd).trans g24).trans g27).trans gd2
  refine ⟨[_, _], rfl, (hB.grow g8d2).all, [_, _], rfl, (hQ.grow g1d2).all, (body_c (hb.gr g0d2) hA h5).mono ?_⟩
  rintro e w33 ⟨lv, rfl, hlv, g33⟩
  have g033 := g0d2.trans g33
  refine ⟨_, rfl, g33, (certR_c hS hok b.length b m0 w33 _ _ lv rfl (hs.grow g033) (hl.gr g033) hlv (hT.grow g033) hA hK (plnB_iff hP).1 (plnB_iff hP).2 h5 rfl posM_m0 ((acy_m0 hA hP).2 hm)).mono ?_⟩
  rintro e w36 ⟨rfl, g36⟩
  exact ⟨_, rfl, g36, by rw [e1], g033.trans g36⟩
theorem rewO_tr (s h : List Int) (b L : List Atm) : rewO (s.take 9) (h.take 9) (trB b) (trF L) = rewO s h b L := by
  unfold rewO
  rw [okR_tr, askN_tr]
  have hz : (h.take 9).length = 0 ↔ h.length = 0 := by rw [List.length_take]; omega
  by_cases h1 : okR s L = true ∧ h.length = 0
  · rw [if_pos (c := okR s L = true ∧ (h.take 9).length = 0) ⟨h1.1, hz.2 h1.2⟩, if_pos h1]
    by_cases h0 : askN s h b = 0
    · rw [if_pos h0, if_pos h0]
      obtain ⟨hS, hq, hK, hP⟩ := askN_ok h0
      rw [(trB_of hq).1, okS_take hS, (okR_trF h1.1).1]
    · rw [if_neg h0, if_neg h0]
  · rw [if_neg (c := okR s L = true ∧ (h.take 9).length = 0) fun h2 => h1 ⟨h2.1, hz.1 h2.2⟩, if_neg h1]
end Go.Proofs.YtmjpnfapjcfejaaGreatDoor
