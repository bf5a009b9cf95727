/- Contract: Freeze. No condition. -/
import Derived.Test.YtjkphmbjdleppaaGreatNd
import Derived.Test.YtjkphmbjdleppaaGreatMr
namespace Go.Proofs.YtjkphmbjdleppaaGreat
open Go Go.RowKit VC
set_option linter.unusedSimpArgs false
set_option linter.unusedVariables false

/-- The value that a term is frozen to. -/
def frz (x : Int) : Int := if x < 0 then 0 - x else 10 + x
def frzA (a : Atm) : Atm := (a.1, a.2.map frz)
theorem frz_c {w : World} {x : Int} (hx : -9 ≤ x ∧ x ≤ 7) : Calls Tryz.prog 21 #[.int .i64 x] w (Same w (.int .i64 (frz x))) := by
  refine f21_calls _ ?_
  refine condD (fun h => ⟨by unfold inR; omega, ?_, rfl⟩) fun h => ⟨by unfold inR; omega, ?_, rfl⟩
  · rw [frz, if_pos h]
  · rw [frz, if_neg h]
theorem frzL_succ {l : List Atm} {k : Nat} (hk : k < l.length) : (l.take (k + 1)).map frzA = (l.take k).map frzA ++ [frzA l[k]] := by rw [List.take_succ_eq_append_getElem hk, List.map_append]; rfl
theorem freeze_c {w : World} {hv bv : Value} {h : List Int} {b : List Atm} (sh : SlI w hv h) (sb : SlA w bv b) :
    Calls Tryz.prog 8 #[.agg #[hv, bv]] w fun e w' => ∃ fv rv, e = .returned (.tuple #[fv, rv, .int .i64 (if okQ h b = true then 0 else 2)]) ∧ SlA w' fv (if okQ h b = true then b.map frzA else []) ∧ SlI w' rv (if okQ h b = true then h.map frz else []) ∧ Grow w w' := by
  refine f8_calls _ ?_
  refine ⟨_, rfl, fun w1 hw1 => ?_⟩
  have g1 := alloc_grow hw1
  have p0 := boxc hw1 0 hv rfl
  have p1 := boxc hw1 1 bv rfl
  refine ⟨[_, _], rfl, two p0 p1, (valid_c (sh.grow g1) (sb.gr g1)).mono ?_⟩
  rintro e w4 ⟨rfl, g4⟩
  have g04 := g1.trans g4
  refine ⟨_, rfl, condP_i (fun hn => ?_) fun hk => ?_⟩
  · have hn : ¬ okQ h b = true := by simpa using hn
    exact ⟨_, _, by rw [if_neg hn], by rw [if_neg hn]; exact SlX.nil _, by rw [if_neg hn]; exact SlI.nil _, g04⟩
  have ok : okQ h b = true := by simpa using hk
  rw [if_pos ok, if_pos ok, if_pos ok]
  have hbl := okQ_len ok
  have hT := okB_term ok
  have hhd := okQ_head ok
  have oa : ∀ a ∈ b, okA a = true := fun a ha => by
    simp only [okQ, Bool.and_eq_true, List.all_eq_true] at ok
    exact ok.1.2 a ha
  refine ⟨_, g4.cell p1, SlX.ln (sb.gr g04) ?_⟩
  refine ⟨fun out t w' => ∃ k : Nat, t = k ∧ k ≤ b.length ∧ OwnF w' w4.heap.size out ((b.take k).map frzA) ∧ Grow w4 w', fun _ t _ => b.length - t.toNat, ⟨0, rfl, by omega, OwnX.nil _ _ _, Grow.refl _⟩, ?_⟩
  rintro - out t w16 ⟨k, rfl, hk, hout, g16⟩
  have g016 := g04.trans g16
  refine condD (fun hlt => ?_) (fun hge => ?_)
  · have hkl : k < b.length := by omega
    have hTk : ∀ x ∈ b[k].2, -9 ≤ x ∧ x ≤ 7 := hT _ (List.getElem_mem hkl)
    have hal := (okA_iff.1 (oa _ (List.getElem_mem hkl))).2.2.2.1
    refine SlX.loc (sb.gr g016) rfl hkl rfl fun w22 u g22 s22 hu c0 c1 => ?_
    obtain ⟨r, hr⟩ : ∃ r, r = b[k].1 := ⟨_, rfl⟩
    obtain ⟨xs, hxs⟩ : ∃ xs, xs = b[k].2 := ⟨_, rfl⟩
    have eA : frzA b[k] = (r, xs.map frz) := by rw [hr, hxs]; rfl
    rw [← hr] at c0
    rw [← hxs] at hu hTk hal
    refine ⟨r, c0, fun w25 hw25 => RecV.init (cs := [.int .i64 r, .slice none 0 0]) hw25 rfl (by
      intro y hy
      simp at hy
      rcases hy with rfl | rfl <;> rfl) fun w26 g26 s26 hC => ?_⟩
    refine ⟨u, g26.cell c1, (hu.grow g26).ln ?_⟩
    refine ⟨fun t w' => ∃ (p : Nat) (av : Value), t = p ∧ p ≤ xs.length ∧ RecV w' w22.heap.size [.int .i64 r, av] ∧ OwnI w' w26.heap.size av ((xs.take p).map frz) ∧ Fr (fun i => i = w22.heap.size ∨ w26.heap.size ≤ i) w26 w', fun t _ => xs.length - t.toNat,
      ⟨0, _, rfl, by omega, hC, by simpa [OwnI] using Own.nil w26 w26.heap.size 3 1, Fr.refl _ _⟩, ?_⟩
    rintro - t w36 ⟨p, av, rfl, hp, hrc, hown, hf⟩
    have g2236 : Grow w22 w36 := g26.fr hf fun i hi e => by omega
    refine condD (fun hlt2 => ?_) (fun hge2 => ?_)
    · have hpl : p < xs.length := by omega
      have hx := hTk _ (List.getElem_mem hpl)
      refine (hu.grow g2236).rd rfl hpl fun m => ?_
      obtain ⟨wd, ewd⟩ : ∃ wd, wd = dr w36 m := ⟨_, rfl⟩
      have gd : Grow w36 wd := by rw [ewd]; exact (Grow.refl w36).dr m
      rw [← ewd]
      have hrd := hrc.grow gd
      have hod := Own.grow hown gd
      have next : ∀ {wl : World}, wl = wd.alloc (.cells #[.int .i64 (frz xs[p])] 3) → PApp Tryz.prog 22 22 av (.slice (some ⟨wd.heap.size, 0, none⟩) 1 1) wl fun t w69 => oneV t ∧ (∃ old, w69.cell? (Addr.add ⟨w22.heap.size, 0, none⟩ 1) = some old) ∧ w69.frozen? (Addr.add ⟨w22.heap.size, 0, none⟩ 1) = false ∧ ∀ w70, w70 = w69.setCell (Addr.add ⟨w22.heap.size, 0, none⟩ 1) t →
          inR ((p : Int) + 1) ∧ ((∃ (p' : Nat) (av : Value), (p : Int) + 1 = p' ∧ p' ≤ xs.length ∧ RecV w70 w22.heap.size [.int .i64 r, av] ∧ OwnI w70 w26.heap.size av ((xs.take p').map frz) ∧ Fr (fun i => i = w22.heap.size ∨ w26.heap.size ≤ i) w26 w70) ∧ xs.length - Int.toNat ((p : Int) + 1) < xs.length - Int.toNat (p : Int)) := fun {wl} hwl => by
        have gl := alloc_grow hwl
        refine papp1 el_int hwl hod rfl (by have := hf.size; have := gd.size; omega) (by simp; omega) (by omega) ?_
        intro v2 w69 ho2 hf2 _
        have hne : ∀ k, some k = av.ownBlock → w26.heap.size ≤ k := fun k e => (Own.lt hown e.symm).1
        have hr2 : RecV w69 w22.heap.size [.int .i64 r, av] := (hrd.grow gl).fr hf2 fun e => by have := hne _ e; omega
        refine ⟨Own.one ho2, ⟨_, hr2.cell (j := 1) rfl⟩, hr2.free 1, fun w70 hw70 => ⟨by unfold inR; omega, ⟨p + 1, v2, by omega, by omega, hr2.set hw70, ?_, ?_⟩, by omega⟩⟩
        · have h9 : OwnI w69 w26.heap.size v2 ((xs.take (p + 1)).map frz) := by
            rw [List.take_succ_eq_append_getElem hpl, List.map_append]
            unfold OwnI
            rw [List.length_append, List.map_append]
            exact ho2
          exact Own.fr h9 (RecV.set_fr hw70) fun k hk e => by have := (Own.lt h9 hk).1; omega
        · exact (hf.trans (Fr.of_grow gd)).trans ((Fr.of_grow gl).trans ((hf2.mono fun k _ e => .inr (hne k e)).trans ((RecV.set_fr hw70).mono fun k _ e => .inl e)))
      have call : ∀ {Q : Ending → World → Prop}, Q (.returned (.int .i64 (frz xs[p]))) wd → Calls Tryz.prog 21 #[.int .i64 xs[p]] wd Q := fun hQ => (frz_c hx).mono (by
        rintro e E ⟨rfl, rfl⟩
        exact hQ)
      refine ⟨⟨av, hrd.cell (j := 1) rfl, _, #[], #[], rfl, by kernel_rfl, call ⟨_, rfl, fun wl hwl => next hwl⟩⟩, _, #[], #[], rfl, by kernel_rfl, call ⟨_, rfl, ⟨av, hrd.cell (j := 1) rfl, fun wl hwl => next hwl⟩, fun wl hwl => ⟨av, (hrd.grow (alloc_grow hwl)).cell (j := 1) rfl, next hwl⟩⟩⟩
    · have hpl : p = xs.length := by omega
      subst hpl
      rw [List.take_length] at hown
      have g1636 := g22.trans g2236
      have hs16 := g16.size
      have hbl2 : ∀ b, out.ownBlock = some b → b < w26.heap.size := fun b hb => by
        have := (hout.lt hb).2
        have := g22.size
        omega
      refine ⟨[_, _], rfl, hrc.all, bs1 el_fact (by omega) (by omega) (cs := #[.int .i64 r, av]) rfl w36 fun w' hw' => ?_⟩
      refine pappX1 el_fact (by omega) (cs := [.int .i64 r, av]) (y := frzA b[k]) (hout.grow g1636) hw' (by
        rw [eA]
        exact elx_own hown (fun b hb => by have hb : b < w4.heap.size := hb; omega) hbl2) (by have := g1636.size; omega) (by simp; omega) (by omega) ?_
      intro v2 w2 ho2 hf2 _ _
      refine ⟨by unfold inR; omega, ⟨k + 1, by omega, by omega, by rw [frzL_succ hkl]; exact ho2, ?_⟩, by dsimp only; omega⟩
      exact ((g16.trans g1636).trans (alloc_grow hw')).fr hf2 fun i hi e => by
        have := (hout.lt e.symm).1
        omega
  · have hkl : k = b.length := by omega
    subst hkl
    rw [List.take_length] at hout
    intro w74 hw74
    have g74 := alloc_grow hw74
    refine ⟨_, ((g4.trans g16).trans g74).cell p0, (sh.grow (g016.trans g74)).ln ?_⟩
    have hlit := Own.lit (B := w16.heap.size) (n := 0) (sz := 1) hw74 (Nat.le_refl _) (by omega) (by simp)
    refine ⟨fun row t w' => ∃ p : Nat, t = p ∧ p ≤ h.length ∧ OwnI w' w16.heap.size row ((h.take p).map frz) ∧ Grow w16 w', fun _ t _ => h.length - t.toNat, ⟨0, rfl, by omega, by simpa [OwnI] using hlit, g74⟩, ?_⟩
    rintro - row t w84 ⟨p, rfl, hp, hown, g84⟩
    refine condD (fun hlt2 => ?_) (fun hge2 => ?_)
    · have hpl : p < h.length := by omega
      have hx := hhd _ (List.getElem_mem hpl)
      refine (sh.grow (g016.trans g84)).rd rfl hpl ⟨_, #[], #[], rfl, by kernel_rfl, (frz_c (x := h[p]) (by omega)).mono ?_⟩
      rintro e E ⟨rfl, rfl⟩
      refine ⟨_, rfl, fun wl hwl => ?_⟩
      have gl := alloc_grow hwl
      refine papp1 el_int hwl hown rfl (by have := g84.size; omega) (by simp; omega) (by omega) ?_
      intro v2 w69 ho2 hf2 _
      refine ⟨by unfold inR; omega, ⟨p + 1, by omega, by omega, ?_, ?_⟩, by dsimp only; omega⟩
      · rw [List.take_succ_eq_append_getElem hpl, List.map_append]
        unfold OwnI
        rw [List.length_append, List.map_append]
        exact ho2
      · exact (g84.trans gl).fr hf2 fun i hi e => by
          have := (Own.lt hown e.symm).1
          omega
    · have hpl : p = h.length := by omega
      subst hpl
      rw [List.take_length] at hown
      exact ⟨_, _, rfl, SlA.gr (OwnX.slX hout) g84, Own.slI hown, g016.trans g84⟩
end Go.Proofs.YtjkphmbjdleppaaGreat

/- The frozen query: it is among the results of another one exactly if there is a homomorphism. Of no program. No condition. -/
namespace Go.Proofs.YtjkphmbjdleppaaGreat
open Go Go.RowKit VC
set_option linter.unusedSimpArgs false
set_option linter.unusedVariables false

def unfrz (v : Int) : Int := if v < 10 then 0 - v else v - 10
theorem unfrz_frz {x : Int} (hx : -9 ≤ x ∧ x ≤ 7) : unfrz (frz x) = x := by
  unfold unfrz frz
  split <;> split <;> omega
theorem frz_rng {x : Int} (hx : -9 ≤ x ∧ x ≤ 7) : 1 ≤ frz x ∧ frz x ≤ 17 := by
  unfold frz
  split <;> omega
theorem okFs_frz {h : List Int} {b : List Atm} (ok : okQ h b = true) : okFs (b.map frzA) = true := by
  have hbl := okQ_len ok
  have oa : ∀ a ∈ b, okA a = true := fun a ha => by
    simp only [okQ, Bool.and_eq_true, List.all_eq_true] at ok
    exact ok.1.2 a ha
  simp only [okFs, Bool.and_eq_true, List.all_eq_true, decide_eq_true_eq, List.length_map]
  refine ⟨by omega, fun f hf => ?_⟩
  obtain ⟨a, ha, rfl⟩ := List.mem_map.1 hf
  obtain ⟨h1, h2, h3, h4, h5⟩ := okA_iff.1 (oa a ha)
  refine okF_iff.2 ⟨h1, h2, by simpa [frzA] using h3, by simpa [frzA] using h4, fun x hx => ?_⟩
  obtain ⟨z, hz, rfl⟩ := List.mem_map.1 hx
  have := frz_rng (h5 z hz)
  omega
theorem srt_le (l : List Atm) : (srtF l).length ≤ l.length := sub_len (srtF_nodup l) fun x hx => (mem_srt key_A).1 hx
theorem step_len (fs : List Atm) (a : Atm) : ∀ ms : List Vals, (stepM fs ms a).length ≤ ms.length * fs.length
  | [] => by simp [stepM]
  | m :: r => by
    have h1 := step_len fs a r
    have h2 : (fs.filterMap (fitA m a)).length ≤ fs.length := List.length_filterMap_le _ _
    have e : stepM fs (m :: r) a = fs.filterMap (fitA m a) ++ stepM fs r a := rfl
    rw [e, List.length_append, List.length_cons, Nat.succ_mul]
    omega
theorem fold_len {fs : List Atm} (hf : fs.length ≤ 5) : ∀ (b : List Atm) (ms : List Vals), (b.foldl (stepM fs) ms).length ≤ ms.length * 5 ^ b.length
  | [], ms => by simp
  | a :: r, ms => by
    have h1 := fold_len hf r (stepM fs ms a)
    have h2 := step_len fs a ms
    have h3 : ms.length * fs.length ≤ ms.length * 5 := Nat.mul_le_mul_left _ hf
    have h4 : (stepM fs ms a).length * 5 ^ r.length ≤ (ms.length * 5) * 5 ^ r.length := Nat.mul_le_mul_right _ (by omega)
    rw [List.foldl_cons, List.length_cons, Nat.pow_succ, Nat.mul_comm (5 ^ r.length) 5, ← Nat.mul_assoc]
    omega
theorem frozen_ok {hp hq : List Int} {bp bq : List Atm} (okp : okQ hp bp = true) (okq : okQ hq bq = true) : (resO hq bq (bp.map frzA)).1 = 0 ∧ (resO hq bq (bp.map frzA)).2 = rowsOf hq (allM (srtF (bp.map frzA)) bq) := by
  have hl : (srtF (bp.map frzA)).length ≤ 5 := by
    have := okQ_len okp
    have h2 := srt_le (bp.map frzA)
    rw [List.length_map] at h2
    omega
  have hr : runF (bp.map frzA) bq = some (allM (srtF (bp.map frzA)) bq) := runF_some.2 ⟨rfl, fun k h1 h2 => by
    have h3 := fold_len hl (bq.take k) [zeroV]
    have h4 := okQ_len okq
    have h5 : (bq.take k).length ≤ 5 := by rw [List.length_take]; omega
    have h6 : 5 ^ (bq.take k).length ≤ 5 ^ 5 := Nat.pow_le_pow_right (by omega) h5
    have h7 : (allM (srtF (bp.map frzA)) (bq.take k)).length ≤ [zeroV].length * 5 ^ (bq.take k).length := h3
    rw [List.length_singleton, Nat.one_mul] at h7
    have h8 : (5 : Nat) ^ 5 = 3125 := by decide
    omega⟩
  unfold resO
  rw [okq, okFs_frz okp, hr]
  exact ⟨rfl, rfl⟩
def idM (b : List Atm) : Vals := (List.range 8).map fun i => if (varsB b).testBit i = true then (10 : Int) + (i : Int) else 0
theorem idM_get {b : List Atm} {i : Nat} (hi : i < 8) : (idM b).getD i 0 = if (varsB b).testBit i = true then (10 : Int) + (i : Int) else 0 := by
  unfold idM
  rw [List.getD, List.getElem?_map, List.getElem?_range hi]
  rfl
def homM (b : List Atm) (m : Vals) : List Int := (List.range 8).map fun i => if (varsB b).testBit i = true then unfrz (m.getD i 0) else 99
theorem homM_get {b : List Atm} {m : Vals} {i : Nat} (hi : i < 8) : (homM b m).getD i 0 = if (varsB b).testBit i = true then unfrz (m.getD i 0) else 99 := by
  unfold homM
  rw [List.getD, List.getElem?_map, List.getElem?_range hi]
  rfl
theorem bit_in {b : List Atm} {a : Atm} {x : Int} (ha : a ∈ b) (hx : x ∈ a.2) (h0 : 0 ≤ x) : (varsB b).testBit x.toNat = true := varsB_bit.2 (List.mem_flatMap.2 ⟨a, ha, by rwa [Int.toNat_of_nonneg h0]⟩)
/-- The frozen query is its own result. -/
theorem self_row {h : List Int} {b : List Atm} (ok : okQ h b = true) : h.map frz ∈ rowsOf h (allM (srtF (b.map frzA)) b) := by
  have hT := okB_term ok
  have val : ∀ x : Int, x ≤ 7 → (0 ≤ x → (varsB b).testBit x.toNat = true) → ofV (idM b) x = frz x := fun x h7 hb => by
    unfold ofV frz
    split
    · omega
    · rw [idM_get (by omega), if_pos (hb (by omega))]
      omega
  refine (mem_rows (okF_pos (okFs_frz ok)) hT).2 ⟨idM b, ⟨by simp [idM], fun i hi => ?_, fun a ha => ?_⟩, ?_⟩
  · rw [idM_get hi, ← varsB_bit]
    split
    · rename_i hb
      exact ⟨fun _ => hb, fun _ => by omega⟩
    · rename_i hb
      exact ⟨fun h => absurd rfl h, fun h => absurd h hb⟩
  · have : imgA (idM b) a = frzA a := by
      unfold imgA frzA
      congr 1
      exact List.map_congr_left fun x hx => val x (hT a ha x hx).2 fun h0 => bit_in ha hx h0
    rw [this]
    exact List.mem_map.2 ⟨a, ha, rfl⟩
  · refine List.map_congr_left fun x hx => ?_
    have := okQ_headIn ok x hx
    exact (val x this.1.2 fun _ => this.2).symm
theorem frozen_iff {hp hq : List Int} {bp bq : List Atm} (okp : okQ hp bp = true) (okq : okQ hq bq = true) (hlen : hp.length = hq.length) : hp.map frz ∈ rowsOf hq (allM (srtF (bp.map frzA)) bq) ↔ ∃ h, IsHom hq bq hp bp h := by
  have hpos := okF_pos (okFs_frz okp)
  have hTq := okB_term okq
  have hTp := okB_term okp
  constructor
  · intro hy
    obtain ⟨m, hm, he⟩ := (mem_rows hpos hTq).1 hy
    have pre : ∀ a ∈ bq, ∃ c ∈ bp, c.1 = a.1 ∧ c.2.map frz = a.2.map (ofV m) := fun a ha => by
      obtain ⟨c, hc, e⟩ := List.mem_map.1 (hm.hit a ha)
      unfold frzA imgA at e
      rw [Prod.mk.injEq] at e
      exact ⟨c, hc, e.1, e.2⟩
    have img : ∀ a ∈ bq, ∀ x ∈ a.2, imgT (homM bq m) x = unfrz (ofV m x) := fun a ha x hx => by
      have ht := hTq a ha x hx
      unfold imgT ofV
      by_cases h0 : 0 ≤ x
      · rw [if_pos h0, if_neg (by omega), homM_get (by omega), if_pos (bit_in ha hx h0)]
      · rw [if_neg h0, if_pos (by omega), unfrz, if_pos (by omega)]
        omega
    have atm : ∀ a ∈ bq, ∃ c ∈ bp, c.1 = a.1 ∧ a.2.map (imgT (homM bq m)) = c.2 := fun a ha => by
      obtain ⟨c, hc, e1, e2⟩ := pre a ha
      refine ⟨c, hc, e1, ?_⟩
      have : a.2.map (imgT (homM bq m)) = (a.2.map (ofV m)).map unfrz := by
        rw [List.map_map]
        exact List.map_congr_left fun x hx => img a ha x hx
      rw [this, ← e2, List.map_map]
      have : c.2.map (unfrz ∘ frz) = c.2.map id := List.map_congr_left fun x hx => unfrz_frz (hTp c hc x hx)
      rw [this, List.map_id]
    refine ⟨homM bq m, by simp [homM], fun i hi => ?_, fun a ha => ?_, fun k hk => ?_⟩
    · rw [homM_get hi]
      split
      · rename_i hb
        obtain ⟨a, ha, hia⟩ := List.mem_flatMap.1 (varsB_bit.1 hb)
        obtain ⟨c, hc, -, e2⟩ := atm a ha
        have h2 : imgT (homM bq m) (i : Int) ∈ c.2 := by
          rw [← e2]
          exact List.mem_map.2 ⟨_, hia, rfl⟩
        have h3 : imgT (homM bq m) (i : Int) = unfrz (m.getD i 0) := by
          rw [imgT, if_pos (by omega), Int.toNat_natCast, homM_get hi, if_pos hb]
        rw [← h3]
        exact hTp c hc _ h2
      · rfl
    · obtain ⟨c, hc, e1, e2⟩ := atm a ha
      have : imgH (homM bq m) a = c := Prod.ext e1.symm e2
      rw [this]
      exact hc
    · have h1 := okQ_headIn okq _ (List.getElem_mem hk)
      have hkp : k < hp.length := by omega
      have h2 := okQ_head okp _ (List.getElem_mem hkp)
      rw [homM_get (by omega), if_pos h1.2]
      have h3 : (hp.map frz)[k]? = (hq.map (ofV m))[k]? := by rw [he]
      simp only [List.getElem?_map, List.getElem?_eq_getElem hk, List.getElem?_eq_getElem hkp, Option.map_some, Option.some.injEq] at h3
      rw [ofV, if_neg (by omega)] at h3
      rw [← h3, unfrz_frz (by omega)]
      simp [List.getD, hkp]
  · rintro ⟨h, hH⟩
    exact hom_rows hpos okq okp hlen.symm hH (self_row okp)
end Go.Proofs.YtjkphmbjdleppaaGreat

/- The statement MatchFrozen, as a contract. No condition. -/
namespace Go.Proofs.YtjkphmbjdleppaaGreat
open Go Go.RowKit VC
set_option linter.unusedSimpArgs false
set_option linter.unusedVariables false

/-- The program's Contained of two made queries. -/
theorem cont_tr {w : World} {hv bv hv' bv' : Value} {hp hq : List Int} {bp bq : List Atm} (s : SlI w hv (hp.take 9)) (t : SlA w bv (trB bp)) (s' : SlI w hv' (hq.take 9)) (t' : SlA w bv' (trB bq)) :
    Calls Tryz.prog 5 #[.agg #[hv, bv], .agg #[hv', bv']] w fun e w' => ∃ b : Bool, e = .returned (.tuple #[.bool b, .int .i64 (if okPQ hp bp hq bq = true then 0 else 2)]) ∧ (b = true ↔ okPQ hp bp hq bq = true ∧ ∃ h, IsHom hq bq hp bp h) ∧ Grow w w' := (containedProg_c s t s' t').mono (by
    rintro e E' ⟨b, rfl, hb, g'⟩
    rw [okPQ_tr] at hb ⊢
    refine ⟨b, rfl, hb.trans ?_, g'⟩
    constructor
    · rintro ⟨ok, h⟩
      obtain ⟨e1, e2, e3, e4⟩ := tr4 ok
      rw [e1, e2, e3, e4] at h
      exact ⟨ok, h⟩
    · rintro ⟨ok, h⟩
      obtain ⟨e1, e2, e3, e4⟩ := tr4 ok
      rw [e1, e2, e3, e4]
      exact ⟨ok, h⟩)
end Go.Proofs.YtjkphmbjdleppaaGreat

/- Contracts: the reference's Freeze and Contained. No condition. -/
namespace Go.Proofs.YtjkphmbjdleppaaGreat
open Go Go.RowKit VC
set_option linter.unusedSimpArgs false
set_option linter.unusedVariables false

theorem refFreeze_c {w : World} {hv bv : Value} {h : List Int} {b : List Atm} (sh : SlI w hv h) (sb : SlA w bv b) (ok : okQ h b = true) :
    Calls Tryz.prog 11 #[.agg #[hv, bv]] w fun e w' => ∃ fv rv, e = .returned (.tuple #[fv, rv]) ∧ SlA w' fv (b.map frzA) ∧ SlI w' rv (h.map frz) ∧ Grow w w' := by
  refine f11_calls _ ?_
  refine ⟨_, rfl, fun w4 hw1 => ?_⟩
  have g04 := alloc_grow hw1
  have p0 := boxc hw1 0 hv rfl
  have p1 := boxc hw1 1 bv rfl
  have hbl := okQ_len ok
  have hT := okB_term ok
  have hhd := okQ_head ok
  have oa : ∀ a ∈ b, okA a = true := fun a ha => by
    simp only [okQ, Bool.and_eq_true, List.all_eq_true] at ok
    exact ok.1.2 a ha
  refine ⟨_, p1, SlX.ln (sb.gr g04) ?_⟩
  refine ⟨fun out t w' => ∃ k : Nat, t = k ∧ k ≤ b.length ∧ OwnF w' w4.heap.size out ((b.take k).map frzA) ∧ Grow w4 w', fun _ t _ => b.length - t.toNat, ⟨0, rfl, by omega, OwnX.nil _ _ _, Grow.refl _⟩, ?_⟩
  rintro - out t w16 ⟨k, rfl, hk, hout, g16⟩
  have g016 := g04.trans g16
  refine condD (fun hlt => ?_) (fun hge => ?_)
  · have hkl : k < b.length := by omega
    have hTk : ∀ x ∈ b[k].2, -9 ≤ x ∧ x ≤ 7 := hT _ (List.getElem_mem hkl)
    have hal := (okA_iff.1 (oa _ (List.getElem_mem hkl))).2.2.2.1
    refine SlX.loc (sb.gr g016) rfl hkl rfl fun w22 u g22 s22 hu c0 c1 => ?_
    obtain ⟨r, hr⟩ : ∃ r, r = b[k].1 := ⟨_, rfl⟩
    obtain ⟨xs, hxs⟩ : ∃ xs, xs = b[k].2 := ⟨_, rfl⟩
    have eA : frzA b[k] = (r, xs.map frz) := by rw [hr, hxs]; rfl
    rw [← hr] at c0
    rw [← hxs] at hu hTk hal
    refine ⟨r, c0, fun w25 hw25 => RecV.init (cs := [.int .i64 r, .slice none 0 0]) hw25 rfl (by
      intro y hy
      simp at hy
      rcases hy with rfl | rfl <;> rfl) fun w26 g26 s26 hC => ?_⟩
    refine ⟨u, g26.cell c1, (hu.grow g26).ln ?_⟩
    refine ⟨fun t w' => ∃ (p : Nat) (av : Value), t = p ∧ p ≤ xs.length ∧ RecV w' w22.heap.size [.int .i64 r, av] ∧ OwnI w' w26.heap.size av ((xs.take p).map frz) ∧ Fr (fun i => i = w22.heap.size ∨ w26.heap.size ≤ i) w26 w', fun t _ => xs.length - t.toNat,
      ⟨0, _, rfl, by omega, hC, by simpa [OwnI] using Own.nil w26 w26.heap.size 3 1, Fr.refl _ _⟩, ?_⟩
    rintro - t wd ⟨p, av, rfl, hp, hrd, hod, hf⟩
    have g2236 : Grow w22 wd := g26.fr hf fun i hi e => by omega
    refine condD (fun hlt2 => ?_) (fun hge2 => ?_)
    · have hpl : p < xs.length := by omega
      have hx := hTk _ (List.getElem_mem hpl)
      have next : ∀ {z : Int} {wl : World}, z = frz xs[p] → wl = wd.alloc (.cells #[.int .i64 z] 3) → PApp Tryz.prog 22 22 av (.slice (some ⟨wd.heap.size, 0, none⟩) 1 1) wl fun t w69 => oneV t ∧ (∃ old, w69.cell? (Addr.add ⟨w22.heap.size, 0, none⟩ 1) = some old) ∧ w69.frozen? (Addr.add ⟨w22.heap.size, 0, none⟩ 1) = false ∧ ∀ w70, w70 = w69.setCell (Addr.add ⟨w22.heap.size, 0, none⟩ 1) t →
          inR ((p : Int) + 1) ∧ ((∃ (p' : Nat) (av : Value), (p : Int) + 1 = p' ∧ p' ≤ xs.length ∧ RecV w70 w22.heap.size [.int .i64 r, av] ∧ OwnI w70 w26.heap.size av ((xs.take p').map frz) ∧ Fr (fun i => i = w22.heap.size ∨ w26.heap.size ≤ i) w26 w70) ∧ xs.length - Int.toNat ((p : Int) + 1) < xs.length - Int.toNat (p : Int)) := fun {z wl} hz hwl => by
        subst hz
        have gl := alloc_grow hwl
        refine papp1 el_int hwl hod rfl (by have := hf.size; omega) (by simp; omega) (by omega) ?_
        intro v2 w69 ho2 hf2 _
        have hne : ∀ k, some k = av.ownBlock → w26.heap.size ≤ k := fun k e => (Own.lt hod e.symm).1
        have hr2 : RecV w69 w22.heap.size [.int .i64 r, av] := (hrd.grow gl).fr hf2 fun e => by have := hne _ e; omega
        refine ⟨Own.one ho2, ⟨_, hr2.cell (j := 1) rfl⟩, hr2.free 1, fun w70 hw70 => ⟨by unfold inR; omega, ⟨p + 1, v2, by omega, by omega, hr2.set hw70, ?_, ?_⟩, by omega⟩⟩
        · have h9 : OwnI w69 w26.heap.size v2 ((xs.take (p + 1)).map frz) := by
            rw [List.take_succ_eq_append_getElem hpl, List.map_append]
            unfold OwnI
            rw [List.length_append, List.map_append]
            exact ho2
          exact Own.fr h9 (RecV.set_fr hw70) fun k hk e => by have := (Own.lt h9 hk).1; omega
        · exact hf.trans ((Fr.of_grow gl).trans ((hf2.mono fun k _ e => .inr (hne k e)).trans ((RecV.set_fr hw70).mono fun k _ e => .inl e)))
      refine (hu.grow g2236).rd rfl hpl (condD (fun h0 => ⟨by unfold inR; omega, av, hrd.cell (j := 1) rfl, by unfold inR; omega, fun wl hwl => next ?_ hwl⟩) fun h0 => ⟨av, hrd.cell (j := 1) rfl, by unfold inR; omega, fun wl hwl => next ?_ hwl⟩)
      · unfold frz
        split <;> omega
      · unfold frz
        split <;> omega
    · have hpl : p = xs.length := by omega
      subst hpl
      rw [List.take_length] at hod
      have g1636 := g22.trans g2236
      have hs16 := g16.size
      have hbl2 : ∀ b, out.ownBlock = some b → b < w26.heap.size := fun b hb => by
        have := (hout.lt hb).2
        have := g22.size
        omega
      refine ⟨[_, _], rfl, hrd.all, bs1 el_fact (by omega) (by omega) (cs := #[.int .i64 r, av]) rfl wd fun w' hw' => ?_⟩
      refine pappX1 el_fact (by omega) (cs := [.int .i64 r, av]) (y := frzA b[k]) (hout.grow g1636) hw' (by
        rw [eA]
        exact elx_own hod (fun b hb => by have hb : b < w4.heap.size := hb; omega) hbl2) (by have := g1636.size; omega) (by simp; omega) (by omega) ?_
      intro v2 w2 ho2 hf2 _ _
      refine ⟨by unfold inR; omega, ⟨k + 1, by omega, by omega, by rw [frzL_succ hkl]; exact ho2, ?_⟩, by dsimp only; omega⟩
      exact ((g16.trans g1636).trans (alloc_grow hw')).fr hf2 fun i hi e => by
        have := (hout.lt e.symm).1
        omega
  · have hkl : k = b.length := by omega
    subst hkl
    rw [List.take_length] at hout
    refine ⟨_, g16.cell p0, (sh.grow g016).ln ?_⟩
    refine ⟨fun row t w' => ∃ p : Nat, t = p ∧ p ≤ h.length ∧ OwnI w' w16.heap.size row ((h.take p).map frz) ∧ Grow w16 w', fun _ t _ => h.length - t.toNat, ⟨0, rfl, by omega, by simpa [OwnI] using Own.nil w16 w16.heap.size 3 1, Grow.refl _⟩, ?_⟩
    rintro - row t w84 ⟨p, rfl, hp, hown, g84⟩
    refine condD (fun hlt2 => ?_) (fun hge2 => ?_)
    · have hpl : p < h.length := by omega
      have hx := hhd _ (List.getElem_mem hpl)
      refine (sh.grow (g016.trans g84)).rd rfl hpl ⟨by unfold inR; omega, fun wl hwl => ?_⟩
      have gl := alloc_grow hwl
      have e10 : (10 : Int) + h[p] = frz h[p] := by
        unfold frz
        split <;> omega
      refine papp1 el_int hwl hown rfl (by have := g84.size; omega) (by simp; omega) (by omega) ?_
      rw [e10]
      intro v2 w69 ho2 hf2 _
      refine ⟨by unfold inR; omega, ⟨p + 1, by omega, by omega, ?_, ?_⟩, by dsimp only; omega⟩
      · rw [List.take_succ_eq_append_getElem hpl, List.map_append]
        unfold OwnI
        rw [List.length_append, List.map_append]
        exact ho2
      · exact (g84.trans gl).fr hf2 fun i hi e => by
          have := (Own.lt hown e.symm).1
          omega
    · have hpl : p = h.length := by omega
      subst hpl
      rw [List.take_length] at hown
      exact ⟨_, _, rfl, SlA.gr (OwnX.slX hout) g84, Own.slI hown, g016.trans g84⟩
theorem refContained_c {w : World} {hpv bpv hqv bqv : Value} {hp hq : List Int} {bp bq : List Atm} (shp : SlI w hpv hp) (sbp : SlA w bpv bp) (shq : SlI w hqv hq) (sbq : SlA w bqv bq) :
    Calls Tryz.prog 7 #[.agg #[hpv, bpv], .agg #[hqv, bqv]] w fun e w' => ∃ b : Bool, e = .returned (.tuple #[.bool b, .int .i64 (if okPQ hp bp hq bq = true then 0 else 2)]) ∧ (b = true ↔ okPQ hp bp hq bq = true ∧ ∃ h, IsHom hq bq hp bp h) ∧ Grow w w' := by
  refine f7_calls _ _ ?_
  refine ⟨_, rfl, fun w1 hw1 => ⟨_, rfl, fun w3 hw3 => ?_⟩⟩
  have g1 := alloc_grow hw1
  have g3 := alloc_grow hw3
  have g03 := g1.trans g3
  have p0 := g3.cell (boxc hw1 0 hpv rfl)
  have p1 := g3.cell (boxc hw1 1 bpv rfl)
  have q0 := boxc hw3 0 hqv rfl
  have q1 := boxc hw3 1 bqv rfl
  have err : ∀ {w'}, Grow w w' → ¬ okPQ hp bp hq bq = true → ∃ b : Bool, Ending.returned (.tuple #[.bool false, .int .i64 2]) = .returned (.tuple #[.bool b, .int .i64 (if okPQ hp bp hq bq = true then 0 else 2)]) ∧ (b = true ↔ okPQ hp bp hq bq = true ∧ ∃ h, IsHom hq bq hp bp h) ∧ Grow w w' := fun g hn => ⟨false, by rw [if_neg hn], by simp [hn], g⟩
  refine ⟨[_, _], rfl, two p0 p1, (refValid_c (shp.grow g03) (sbp.gr g03)).mono ?_⟩
  rintro e w6 ⟨rfl, g6⟩
  have g06 := g03.trans g6
  refine ⟨_, rfl, condP_i (fun h1 => err g06 (fun h => by rw [(okPQ_iff.1 h).1] at h1; cases h1)) fun h1 => ?_⟩
  have h1 : okQ hp bp = true := by simpa using h1
  refine ⟨[_, _], rfl, two (g6.cell q0) (g6.cell q1), (refValid_c (shq.grow g06) (sbq.gr g06)).mono ?_⟩
  rintro e w10 ⟨rfl, g10⟩
  have g010 := g06.trans g10
  have g310 := g6.trans g10
  refine ⟨_, rfl, condP_i (fun h2 => err g010 (fun h => by rw [(okPQ_iff.1 h).2.1] at h2; cases h2)) fun h2 => ?_⟩
  have h2 : okQ hq bq = true := by simpa using h2
  refine ⟨_, g310.cell p0, (shp.grow g010).ln ⟨_, g310.cell q0, (shq.grow g010).ln (condP_i (fun h3 => err g010 (fun h => by have := (okPQ_iff.1 h).2.2; simp at h3; omega)) fun h3 => ?_)⟩⟩
  have h3 : hp.length = hq.length := by simp at h3; omega
  have ok : okPQ hp bp hq bq = true := okPQ_iff.2 ⟨h1, h2, h3⟩
  rw [if_pos ok]
  refine ⟨[_, _], rfl, two (g310.cell p0) (g310.cell p1), (refFreeze_c (shp.grow g010) (sbp.gr g010) h1).mono ?_⟩
  rintro e w22 ⟨fv, rv, rfl, sf, sr, g22⟩
  refine ⟨_, _, rfl, [_, _], rfl, two ((g310.trans g22).cell q0) ((g310.trans g22).cell q1), (refResults_c (shq.grow (g010.trans g22)) (sbq.gr (g010.trans g22)) sf).mono ?_⟩
  obtain ⟨fz1, fz2⟩ := frozen_ok h1 h2
  rw [fz1, fz2]
  rintro e w27 ⟨va, rfl, sva, g27⟩
  obtain ⟨L, hL⟩ : ∃ L, L = rowsOf hq (allM (srtF (bp.map frzA)) bq) := ⟨_, rfl⟩
  have hiff := frozen_iff h1 h2 h3
  rw [← hL] at sva hiff
  have hsl := SlX.len_le sva
  have g027 := (g010.trans g22).trans g27
  refine ⟨_, _, rfl, SlX.ln sva ⟨fun t w' => ∃ k : Nat, t = k ∧ k ≤ L.length ∧ hp.map frz ∉ L.take k ∧ Grow w27 w', fun t _ => L.length - t.toNat, ⟨0, rfl, by omega, by simp, Grow.refl _⟩, ?_⟩⟩
  rintro - t w38 ⟨k, rfl, hk, hno, g38⟩
  refine condD (fun hlt => ?_) fun hge => ?_
  · have hkl : k < L.length := by omega
    refine SlL.rd1 (sva.gr g38) rfl hkl fun u hu => ?_
    refine (refEqual_c (sr.grow (g27.trans g38)) hu).mono ?_
    rintro e w43 ⟨rfl, rfl⟩
    refine ⟨_, rfl, condD (fun he => ?_) fun hne => ?_⟩
    · refine ⟨true, rfl, ⟨fun _ => ⟨ok, hiff.1 ?_⟩, fun _ => rfl⟩, g027.trans g38⟩
      rw [he]
      exact List.getElem_mem hkl
    · refine ⟨by unfold inR; omega, ⟨k + 1, by omega, by omega, ?_, g38⟩, by dsimp only; omega⟩
      rw [List.take_succ_eq_append_getElem hkl]
      intro hm
      rcases List.mem_append.1 hm with hm | hm
      · exact hno hm
      · exact hne (by simpa using hm)
  · have hkl : k = L.length := by omega
    subst hkl
    rw [List.take_length] at hno
    exact ⟨false, rfl, ⟨fun h => (by cases h), fun h => absurd (hiff.2 h.2) hno⟩, g027.trans g38⟩
end Go.Proofs.YtjkphmbjdleppaaGreat
