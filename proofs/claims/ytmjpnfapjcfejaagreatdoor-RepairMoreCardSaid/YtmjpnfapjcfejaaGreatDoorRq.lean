/- Contracts: Sure, by the reference; equal rows. No condition. -/
import Derived.Test.YtmjpnfapjcfejaaGreatDoorRp
import Derived.Test.YtmjpnfapjcfejaaGreatDoorRl
namespace Go.Proofs.YtmjpnfapjcfejaaGreatDoor
open Go Go.RowKit VC
set_option linter.unusedSimpArgs false
set_option linter.unusedVariables false

theorem elx_oldI {T : Nat → Prop} {w w0 : World} {x : List Int} {u out : Value} (hu : SlI w0 u x) (g : Grow w0 w) (hT : ∀ b, T b → w0.heap.size ≤ b) (hout : ∀ b, out.ownBlock = some b → w0.heap.size ≤ b) : ElX T 1 repI out w ([u], x) := by
  refine ⟨rfl, ?_, fun w2 hf => ⟨u, rfl, hu.grow (g.fr hf fun i hi e => ?_)⟩⟩
  · intro y hy
    simp at hy
    subst hy
    exact hu.one.2
  · rcases e with e | e
    · have := hT i e; omega
    · have := hout i e.symm; omega
theorem rdR {w0 w : World} {v : Value} {L : List (List Int)} (h : SlL w0 v L) (g : Grow w0 w) {i : Nat} {j : Int} (hj : j = (i : Int)) (hi : i < L.length) {K : Value → Prop} (hk : ∀ u, SlI w0 u L[i] → K u) :
    ∃ (a : Addr) (m c : Nat), v = .slice (some a) m c ∧ ((0 : Int) ≤ j ∧ j < (m : Int)) ∧ ∃ u : Value, w.cell? (a.add (Int.toNat j * 1)) = some u ∧ K u := by
  obtain ⟨a, m, c, e, hb, cs, hl, hcs, u, rfl, hu⟩ := (pinR h g).rd hj hi (K := fun cs => ∃ u, cs = [u] ∧ SlI w0 u L[i]) fun cs _ hr => hr
  have := hcs 0 u rfl
  rw [add_add, Nat.add_zero] at this
  exact ⟨a, m, c, e, hb, u, this, hk u hu⟩
theorem mem_sureR {s h : List Int} {b L : List Atm} (hne : allR (klS s) L ≠ []) {x : List Int} : x ∈ sureR s h b L ↔ ∀ m ∈ allR (klS s) L, x ∈ rowM h b L m := by
  have hpos := List.length_pos_iff.2 hne
  have e : (allR (klS s) L).getD 0 0 = (allR (klS s) L)[0] := by simp [List.getD, hpos]
  unfold sureR sureK
  rw [if_neg (by omega), List.take_length, List.mem_filter, List.all_eq_true, e]
  constructor
  · exact fun h m hm => of_decide_eq_true (h.2 m hm)
  · exact fun h => ⟨h _ (List.getElem_mem hpos), fun m hm => decide_eq_true (h m hm)⟩
theorem rowM_nodup (h : List Int) (b L : List Atm) (m : Nat) : (rowM h b L m).Nodup := str_nodup (str_srt key_id _)
/-! ## Equal rows -/
theorem rows7_c {w : World} {u v : Value} {L M : List (List Int)} (hx : SlL w u L) (hy : SlL w v M) : Calls Tryz.prog 28 #[u, v] w (Ret w (.bool (decide (L = M)))) := by
  refine f28_calls _ _ ?_
  have main : Calls Tryz.prog 61 #[u, v, .func (.func 25) #[] #[]] w (Ret w (.bool (decide (L = M)))) := by
    refine f61_calls _ _ _ ?_
    have h1 := SlX.len_le hx
    have h2 := SlX.len_le hy
    refine SlX.ln hx (SlX.ln hy (condP_i (fun h => ?_) fun h => ?_))
    · refine ⟨?_, Grow.refl w⟩
      have : L ≠ M := fun e => by subst e; simp at h
      rw [decide_eq_false this]
    have hl : L.length = M.length := by simp at h; omega
    refine SlX.ln hx ⟨fun t w' => ∃ k : Nat, t = k ∧ k ≤ L.length ∧ Grow w w' ∧ L.take k = M.take k, fun t _ => L.length - t.toNat, ⟨0, rfl, by omega, Grow.refl w, by simp⟩, ?_⟩
    rintro - t w1 ⟨k, rfl, hk, hw, htk⟩
    refine condD (fun hlt => ?_) (fun hge => ?_)
    · have hkl : k < L.length := by omega
      refine SlL.rd1 (hx.gr hw) rfl hkl fun a ha => SlL.rd1 (hy.gr hw) rfl (by omega) fun c hc => ⟨_, _, _, rfl, by kernel_rfl, ?_⟩
      rw [app2]
      refine (equal_c ha hc).mono ?_
      rintro e w2 ⟨rfl, g2⟩
      refine ⟨_, rfl, condP_i (fun h => ?_) fun h => ?_⟩
      · have h : ¬ L[k] = M[k] := by simpa using h
        refine ⟨?_, hw.trans g2⟩
        have : L ≠ M := fun e => h (by subst e; rfl)
        rw [decide_eq_false this]
      · have he : L[k] = M[k] := by simpa using h
        refine ⟨by unfold inR; omega, ⟨k + 1, by omega, by omega, hw.trans g2, ?_⟩, by dsimp only; omega⟩
        rw [List.take_succ_eq_append_getElem hkl, List.take_succ_eq_append_getElem (by omega), htk, he]
    · refine ⟨?_, hw⟩
      have : k = L.length := by omega
      subst this
      rw [List.take_length, hl, List.take_length] at htk
      rw [decide_eq_true htk]
  refine main.mono ?_
  rintro e w' ⟨rfl, g⟩
  exact ⟨_, rfl, rfl, g⟩
section
variable {w : World} {sv fv hv bv : Value} {s h : List Int} {b L : List Atm}
/-- A repair's results, by the reference, in both orders of evaluation. -/
theorem refL_c {wq : World} (hl : SlA wq fv L) (h12 : L.length ≤ 12) (hh : SlI wq hv h) (hb : SlA wq bv b) (h0 : (askO h b L).1 = 0) {aq : Addr} (hQ : ∀ {E}, Grow wq E → ∀ (j : Nat) (v : Value), [hv, bv][j]? = some v → E.cell? (Addr.add aq j) = some v) {m : Nat} {w' : World} (g : Grow wq w') {K : Value → World → Prop}
    (hk : ∀ v w2, Grow w' w2 → SlL w2 v (rowM h b L m) → K v w2) : ∀ d : DM w', (∃ cs_v20 : List Value, cs_v20.length = 2 ∧ (∀ (j : Nat) (v : Value), cs_v20[j]? = some v → (dr w' d.1).cell? (Addr.add aq j) = some v) ∧ Calls Tryz.prog 44 #[fv, (Value.int .i64 (m : Int))] (dr w' d.1) fun e_v22 w_v21 => ∃ t_v23 : Value, e_v22 = .returned t_v23 ∧ Calls Tryz.prog 66 #[(Value.agg cs_v20.toArray), t_v23] w_v21 fun e_v25 w_v24 => ∃ t_v26 : Value, ∃ t_v27 : Int, e_v25 = .returned (Value.tuple #[t_v26, (Value.int .i64 t_v27)]) ∧ K t_v26 w_v24) ∧ (Calls Tryz.prog 44 #[fv, (Value.int .i64 (m : Int))] (dr w' d.1) fun e_v29 w_v28 => ∃ t_v30 : Value, e_v29 = .returned t_v30 ∧ ∃ cs_v31 : List Value, cs_v31.length = 2 ∧ (∀ (j : Nat) (v : Value), cs_v31[j]? = some v → w_v28.cell? (Addr.add aq j) = some v) ∧ Calls Tryz.prog 66 #[(Value.agg cs_v31.toArray), t_v30] w_v28 fun e_v33 w_v32 => ∃ t_v34 : Value, ∃ t_v35 : Int, e_v33 = .returned (Value.tuple #[t_v34, (Value.int .i64 t_v35)]) ∧ K t_v34 w_v32) := by
  intro d
  have gd : Grow w' (dr w' d.1) := (Grow.refl w').dr d.1
  have gD := g.trans gd
  have leaf : ∀ {w2 v}, Grow (dr w' d.1) w2 → SlA w2 v (ofM L m) → Calls Tryz.prog 66 #[.agg #[hv, bv], v] w2 fun e_v33 w_v32 => ∃ t_v34 : Value, ∃ t_v35 : Int, e_v33 = .returned (Value.tuple #[t_v34, (Value.int .i64 t_v35)]) ∧ K t_v34 w_v32 := fun {w2 v} g2 hv2 => by
    refine (refResults_c (hh.grow (gD.trans g2)) (hb.gr (gD.trans g2)) hv2).mono ?_
    rintro e w3 ⟨lv, rfl, hlv, g3⟩
    rw [resO_ofM h0] at hlv
    exact ⟨_, _, rfl, hk lv w3 ((gd.trans g2).trans g3) hlv⟩
  have call : ∀ {Q : Ending → World → Prop}, (∀ v w2, Grow (dr w' d.1) w2 → SlA w2 v (ofM L m) → Q (.returned v) w2) → Calls Tryz.prog 44 #[fv, .int .i64 (m : Int)] (dr w' d.1) Q := fun hq => (ofR_c (hl.gr gD) h12 m).mono (by
    rintro e w2 ⟨v, rfl, hv2, g2⟩
    exact hq v w2 g2 hv2)
  exact ⟨⟨[_, _], rfl, hQ gD, call fun v w2 g2 hv2 => ⟨v, rfl, leaf g2 hv2⟩⟩, call fun v w2 g2 hv2 => ⟨v, rfl, [_, _], rfl, hQ (gD.trans g2), leaf g2 hv2⟩⟩
theorem refSure_c (hs : SlI w sv s) (hl : SlA w fv L) (hh : SlI w hv h) (hb : SlA w bv b) (hR : okR s L = true) (h0 : (askO h b L).1 = 0) :
    Calls Tryz.prog 33 #[sv, fv, .agg #[hv, bv]] w fun e w' => ∃ v, e = .returned v ∧ SlL w' v (sureR s h b L) ∧ Grow w w' := by
  refine f33_calls _ _ _ ⟨_, rfl, fun w1 hw1 => ?_⟩
  have g1 := alloc_grow hw1
  have hQ := RecV.new hw1
  refine (all_c (hs.grow g1) (hl.gr g1) hR).mono ?_
  rintro e w3 ⟨v, rfl, hv3, g3⟩
  have g03 := g1.trans g3
  refine ⟨_, rfl, hv3.ln ?_⟩
  rw [natI_len]
  obtain ⟨R, hRR⟩ : ∃ R, R = allR (klS s) L := ⟨_, rfl⟩
  have hRl : R.length ≤ 4096 := by rw [hRR]; exact allR_len (klS s) L (okR_out hR).2.1
  rw [← hRR] at hv3 ⊢
  have hsl : ∀ k, (sureK h b L R k).length ≤ 20000 := fun k => by
    unfold sureK
    split
    · simp
    · exact Nat.le_trans (List.length_filter_le _ _) (rowM_len h0 _)
  refine ⟨fun out t w' => ∃ k : Nat, t = k ∧ k ≤ R.length ∧ SlL w' out (sureK h b L R k) ∧ Grow w3 w', fun _ t _ => R.length - t.toNat, ⟨0, rfl, by omega, SlX.nil _, Grow.refl _⟩, ?_⟩
  rintro - out t w14 ⟨k, rfl, hk, hout, g14⟩
  refine condD (fun hlt => ?_) fun hge => ?_
  · have hkl : k < R.length := by omega
    refine (hv3.grow g14).rd rfl (by rw [natI_len]; exact hkl) ?_
    rw [natI_get hkl]
    refine ⟨fun lv w' => SlL w' lv (rowM h b L R[k]) ∧ Grow w14 w', refL_c (hl.gr g03) (okR_out hR).2.1 (hh.grow g03) (hb.gr g03) h0 (fun g => ((hQ.grow g3).grow g).all) g14 fun v w2 g2 hv2 => ⟨hv2, g2⟩, ?_⟩
    rintro - lv w39 ⟨hlv, g39⟩
    refine condD (fun hz => ?_) fun hz => ?_
    · have hz : k = 0 := by omega
      subst hz
      refine ⟨by unfold inR; omega, ⟨1, rfl, by omega, ?_, g14.trans g39⟩, by dsimp only; omega⟩
      rw [sureK_one hkl]
      exact hlv
    · have hz : k ≠ 0 := by omega
      have hout39 := hout.gr g39
      obtain ⟨S, hS⟩ : ∃ S, S = sureK h b L R k := ⟨_, rfl⟩
      obtain ⟨N, hN⟩ : ∃ N, N = rowM h b L R[k] := ⟨_, rfl⟩
      have hSl : S.length ≤ 20000 := by rw [hS]; exact hsl k
      have hNl : N.length ≤ 20000 := by rw [hN]; exact rowM_len h0 _
      have hNn : N.Nodup := by rw [hN]; exact rowM_nodup h b L _
      rw [← hS] at hout39
      rw [← hN] at hlv
      have hfl : ∀ i, ((S.take i).filter fun x => decide (x ∈ N)).length ≤ 20000 := fun i => by
        have h1 := List.length_filter_le (fun x => decide (x ∈ N)) (S.take i)
        rw [List.length_take] at h1
        omega
      refine SlX.ln hout39 ⟨fun both t w' => ∃ i : Nat, t = i ∧ i ≤ S.length ∧ OwnX (fun q => w39.heap.size ≤ q) 1 repI w' w39.heap.size 22 both ((S.take i).filter fun x => decide (x ∈ N)) ∧ Grow w39 w', fun _ t _ => S.length - t.toNat, ⟨0, rfl, by omega, OwnX.nil _ _ _, Grow.refl _⟩, ?_⟩
      rintro - both t w48 ⟨i, rfl, hi, hbo, g48⟩
      refine condD (fun hlt2 => ?_) fun hge2 => ?_
      · have hil : i < S.length := by omega
        refine rdR hout39 g48 rfl hil fun u hu => SlX.ln (hlv.gr g48) ⟨fun both t w' => ∃ j : Nat, t = j ∧ j ≤ N.length ∧ OwnX (fun q => w39.heap.size ≤ q) 1 repI w' w39.heap.size 22 both (((S.take i).filter fun x => decide (x ∈ N)) ++ (if S[i] ∈ N.take j then [S[i]] else [])) ∧ Grow w39 w', fun _ t _ => N.length - t.toNat, ⟨0, rfl, by omega, by simpa using hbo, g48⟩, ?_⟩
        rintro - bo t w61 ⟨j, rfl, hj, hbo2, g61⟩
        refine condD (fun hlt3 => ?_) fun hge3 => ?_
        · have hjl : j < N.length := by omega
          refine rdR hlv g61 rfl hjl fun y hy => (refEqual_c (hu.grow g61) (hy.grow g61)).mono ?_
          rintro e w66 ⟨rfl, rfl⟩
          refine ⟨_, rfl, condD (fun he => ?_) fun hne => ?_⟩
          · have hnot : ¬ S[i] ∈ N.take j := fun hm => by
              obtain ⟨q, hq, e⟩ := List.getElem_of_mem hm
              rw [List.length_take] at hq
              rw [List.getElem_take, he] at e
              have := (List.getElem_inj hNn).1 e
              omega
            have hin : S[i] ∈ N.take (j + 1) := by
              rw [List.take_succ_eq_append_getElem hjl, he]
              exact List.mem_append_right _ (List.mem_singleton.2 rfl)
            rw [if_neg hnot, List.append_nil] at hbo2
            have hfi := hfl i
            have hs61 := g61.size
            refine ⟨hu.one, fun w69 hw69 => pappX1 el_row (by omega) (cs := [u]) (y := S[i]) hbo2 hw69 (elx_oldI hu g61 (fun q hq => hq) fun q hq => (hbo2.lt hq).1) (by omega) (by omega) (by omega) ?_⟩
            intro v2 w71 ho2 hf2 _ _
            refine ⟨by unfold inR; omega, ⟨j + 1, by omega, by omega, ?_, ?_⟩, by dsimp only; omega⟩
            · rw [if_pos hin]
              exact ho2
            · exact (g61.trans (alloc_grow hw69)).fr hf2 fun q hq e => by have := (hbo2.lt e.symm).1; omega
          · refine ⟨by unfold inR; omega, ⟨j + 1, by omega, by omega, ?_, g61⟩, by dsimp only; omega⟩
            have : (S[i] ∈ N.take (j + 1)) ↔ S[i] ∈ N.take j := by
              rw [List.take_succ_eq_append_getElem hjl, List.mem_append, List.mem_singleton]
              exact ⟨fun h => h.elim id fun h => absurd h hne, .inl⟩
            by_cases hm : S[i] ∈ N.take j
            · rw [if_pos (this.2 hm)]
              rwa [if_pos hm] at hbo2
            · rw [if_neg fun h => hm (this.1 h)]
              rwa [if_neg hm] at hbo2
        · have hjl : j = N.length := by omega
          subst hjl
          rw [List.take_length] at hbo2
          refine ⟨by unfold inR; omega, ⟨i + 1, by omega, by omega, ?_, g61⟩, by dsimp only; omega⟩
          rw [List.take_succ_eq_append_getElem hil, List.filter_append, List.filter_cons]
          by_cases hm : S[i] ∈ N
          · rw [if_pos hm] at hbo2
            rw [if_pos (decide_eq_true hm)]
            exact hbo2
          · rw [if_neg hm] at hbo2
            rw [if_neg (by simpa using hm)]
            exact hbo2
      · have hil : i = S.length := by omega
        subst hil
        rw [List.take_length] at hbo
        refine ⟨by unfold inR; omega, ⟨k + 1, by omega, by omega, ?_, (g14.trans g39).trans g48⟩, by dsimp only; omega⟩
        rw [sureK_succ hz hkl, ← hS, ← hN]
        have : (S.filter fun x => !!decide (x ∈ N)) = S.filter fun x => decide (x ∈ N) := List.filter_congr fun x _ => Bool.not_not _
        rw [this]
        exact OwnX.slX hbo
  · have hkl : k = R.length := by omega
    subst hkl
    refine ⟨out, rfl, ?_, g03.trans g14⟩
    unfold sureR
    rw [← hRR]
    exact hout
end
end Go.Proofs.YtmjpnfapjcfejaaGreatDoor
