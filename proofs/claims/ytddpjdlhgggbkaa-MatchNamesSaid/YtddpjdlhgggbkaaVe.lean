/- The calculus, third part: regions, code, calls; soundness. No condition. -/
import Derived.Test.YtddpjdlhgggbkaaVd
namespace Go.Proofs.Ytddpjdlhgggbkaa.VC
open Go Go.RowKit
set_option linter.unusedSimpArgs false
set_option linter.unusedVariables false
variable (C : Nat → Bool)

/-! ## Frames -/
structure Agree (W : List Nat) (a a' : Act) : Prop where
  size : a'.tmps.size = a.tmps.size
  defers : a'.defers = a.defers
  same : ∀ i, i ∉ W → a'.tmps[i]? = a.tmps[i]?
theorem Agree.refl (W : List Nat) (a : Act) : Agree W a a := ⟨rfl, rfl, fun _ _ => rfl⟩
theorem Agree.trans {W : List Nat} {a b c : Act} (h : Agree W a b) (k : Agree W b c) : Agree W a c :=
  ⟨k.size.trans h.size, k.defers.trans h.defers, fun i hi => (k.same i hi).trans (h.same i hi)⟩
theorem Agree.mono {W W' : List Nat} {a b : Act} (h : Agree W a b) (hs : ∀ i, i ∈ W → i ∈ W') : Agree W' a b :=
  ⟨h.size, h.defers, fun i hi => h.same i fun hw => hi (hs i hw)⟩
theorem Agree.put {W : List Nat} (a : Act) {d : Option Tmp} (hd : ∀ t, d = some t → t ∈ W) (v : Value) : Agree W a (a.put d v) := by
  cases d with
  | none => exact Agree.refl _ _
  | some t =>
    refine ⟨by simp [Act.put], rfl, fun i hi => ?_⟩
    have : t ≠ i := fun e => hi (e ▸ hd t rfl)
    simp [Act.put, Array.getElem?_setIfInBounds, this]
def dsts : List Oper → List Nat
  | [] => []
  | o :: r => match o.dst with
    | some d => d :: dsts r
    | none => dsts r
theorem mem_dsts {ops : List Oper} {o : Oper} (h : o ∈ ops) {t : Nat} (ht : o.dst = some t) : t ∈ dsts ops := by
  induction ops with
  | nil => cases h
  | cons p r ih =>
    rcases List.mem_cons.1 h with rfl | h
    · simp [dsts, ht]
    · unfold dsts
      split
      · exact List.mem_cons_of_mem _ (ih h)
      · exact ih h

/-! ## Regions -/
def spl (sp : List Nat) (i : Nat) (o : Oper) (v : Value) (a : Act) (k : Act → Prop) : Prop :=
  match sp.contains i with
  | true => match v with
    | .bool b => condP b (k (a.put o.dst (.bool true))) (k (a.put o.dst (.bool false)))
    | _ => False
  | false => k (a.put o.dst v)
theorem spl_out {sp : List Nat} {i : Nat} {o : Oper} {v : Value} {a : Act} {k : Act → Prop} (h : spl sp i o v a k) : k (a.put o.dst v) := by
  unfold spl at h
  split at h
  · split at h
    · rename_i b
      cases b <;> exact h
    · exact h.elim
  · exact h
def vOps (P : Program) (ops : Array Oper) (sp : List Nat) (K : Act → World → Prop) : Nat → List Oper → Act → World → Prop
  | _, [], a, w => K a w
  | i, o :: rest, a, w => match Region.wanted o (yielded ops a.tmps) with
    | true => opV C P o a.eval w fun v w' => spl sp i o v a fun a' => vOps P ops sp K (i + 1) rest a' w'
    | false => vOps P ops sp K (i + 1) rest (a.put o.dst undef) w
def qV (P : Program) (G : Bool) (o : Oper) (ρ : Operand → Value) (w : World) (K : Value → Prop) : Prop :=
  match lenPure P o.op with
  | true => pureV P o ρ K
  | false => match o.op with
    | .load t a => loadV P t (ρ a) w K
    | .call { callee := .value (.func f), args, .. } => match G && C f with
      | true => QCall P (rkOf P o.type) f (args.map ρ) w K
      | false => False
    | .call { callee := .value f, args, .. } => match G with
      | true => QCallV C P (rkOf P o.type) (ρ f) (args.map ρ) w K
      | false => False
    | _ => False
def vQ (P : Program) (G : Bool) (ops : Array Oper) (sp : List Nat) (w : World) (K : Act → Prop) : Nat → List Oper → Act → Prop
  | _, [], a => K a
  | i, o :: rest, a => match Region.wanted o (yielded ops a.tmps) with
    | true => qV C P G o a.eval w fun v => spl sp i o v a fun a' => vQ P G ops sp w K (i + 1) rest a'
    | false => vQ P G ops sp w K (i + 1) rest (a.put o.dst undef)
def allN : List Nat → (Nat → Prop) → Prop
  | [], _ => True
  | [i], f => f i
  | i :: r, f => f i ∧ allN r f
theorem allN_mem {f : Nat → Prop} : ∀ {l : List Nat}, allN l f → ∀ i ∈ l, f i
  | [], _, i, hi => by cases hi
  | [j], h, i, hi => by simp at hi; subst hi; exact h
  | j :: k :: r, h, i, hi => by
    rcases List.mem_cons.1 hi with rfl | hi
    · exact h.1
    · exact allN_mem h.2 i hi
def pureAt (P : Program) (ops : Array Oper) (i : Nat) : Bool := match ops[i]? with | some o => lenPure P o.op | none => false
/-- Whatever order is drawn: operations that look at no world are taken first; of the others each that may come. -/
def vAny (P : Program) (ops : Array Oper) (sp : List Nat) (K : Act → World → Prop) : Nat → Array Bool → Act → World → Prop
  | 0, listed, a, w => match Region.ready .any ops listed with
    | [] => K a w
    | _ => False
  | f + 1, listed, a, w => match Region.ready .any ops listed with
    | [] => K a w
    | r => match r.find? (pureAt P ops) with
      | some i => match ops[i]?, Region.free .any ops listed i with
        | some o, true => match Region.wanted o (yielded ops a.tmps) with
          | true => pureV P o a.eval fun v => spl sp i o v a fun a' => vAny P ops sp K f (listed.setIfInBounds i true) a' w
          | false => vAny P ops sp K f (listed.setIfInBounds i true) (a.put o.dst undef) w
        | _, _ => False
      | none => allN r fun i => match ops[i]? with
        | some o => match Region.wanted o (yielded ops a.tmps) with
          | true => opV C P o a.eval w fun v w' => spl sp i o v a fun a' => vAny P ops sp K f (listed.setIfInBounds i true) a' w'
          | false => vAny P ops sp K f (listed.setIfInBounds i true) (a.put o.dst undef) w
        | none => False
/-- How a region is to be gone through: 'q': one that draws and only reads (with calls: true); 'any': one that draws, otherwise; the list: behind which operations to part on the answer. -/
inductive RH | plain (sp : List Nat) | q (calls : Bool) (sp : List Nat) | any (sp : List Nat)
def vRegion (P : Program) (r : RH) (ops : Array Oper) (draw : Bool) (K : Act → World → Prop) (a : Act) (w : World) : Prop :=
  match draw, r with
  | false, .plain sp => vOps C P ops sp K 0 ops.toList a w
  | true, .q false sp => vQ C P false ops sp w (fun a' => ∀ m : DM w, K a' (dr w m.1)) 0 ops.toList a
  | true, .q true sp => vQ C P true ops sp w (fun a' => ∀ w', Grow w w' → K a' w') 0 ops.toList a
  | true, .any sp => ∀ m : DM w, vAny C P ops sp K ops.size (Array.replicate ops.size false) a (dr w m.1)
  | _, _ => False
def rOk (r : RH) (ops : Array Oper) (draw : Bool) : Bool :=
  match draw, r with
  | true, .q _ _ => Region.lexB .any ops
  | true, .any _ => Region.noSelect ops
  | _, _ => true

/-! ## Code -/
inductive HT
  | leaf
  | region (r : RH)
  | seq (cut : Option (List (Nat × VK))) (a b : HT)
  | cond (a b : HT)
  | block (a : HT)
  | loop (L : List (Nat × VK)) (a : HT)
def VK.get : (k : VK) → Value → (k.T → Prop) → Prop
  | .int k, v, f => match v with
    | .int k' n => if k' = k then f n else False
    | _ => False
  | .bool, v, f => match v with
    | .bool b => f b
    | _ => False
  | .raw, v, f => f v
  | .ptr, v, f => match v with
    | .pointer (some a) => f a
    | _ => False
theorem VK.get_out {k : VK} {v : Value} {f : k.T → Prop} (h : k.get v f) : ∃ x, v = k.val x ∧ f x := by
  cases k with
  | int k =>
    cases v
    case int k' n =>
      by_cases e : k' = k
      · subst e
        exact ⟨n, rfl, by simpa [VK.get] using h⟩
      · simp [VK.get, e] at h
    all_goals exact (show False from h).elim
  | bool =>
    cases v
    case bool b => exact ⟨b, rfl, h⟩
    all_goals exact (show False from h).elim
  | raw => exact ⟨v, rfl, h⟩
  | ptr =>
    cases v
    case pointer o =>
      cases o
      · exact (show False from h).elim
      · exact ⟨_, rfl, h⟩
    all_goals exact (show False from h).elim
theorem VK.get_in : ∀ {k : VK} {x : k.T} {f : k.T → Prop}, f x → k.get (k.val x) f
  | .int k, x, f, h => by simp [VK.get, VK.val]; exact h
  | .bool, x, f, h => h
  | .raw, x, f, h => h
  | .ptr, x, f, h => h
def KPred : List (Nat × VK) → Type
  | [] => World → Prop
  | (_, k) :: r => k.T → KPred r
def KMeas : List (Nat × VK) → Type
  | [] => World → Nat
  | (_, k) :: r => k.T → KMeas r
def asP (I : KPred []) : World → Prop := I
def asN (μ : KMeas []) : World → Nat := μ
def readS : (L : List (Nat × VK)) → KPred L → Act → World → Prop
  | [], I, _, w => I w
  | (i, k) :: r, I, a, w => k.get (a.tmps.getD i undef) fun x => readS r (I x) a w
def readM : (L : List (Nat × VK)) → KPred L → KMeas L → Act → Nat → World → Prop
  | [], I, μ, _, m, w => asP I w ∧ asN μ w < m
  | (i, k) :: r, I, μ, a, m, w => k.get (a.tmps.getD i undef) fun x => readM r (I x) (μ x) a m w
def allS : (L : List (Nat × VK)) → KPred L → KMeas L → Act → (Act → (World → Prop) → (World → Nat) → Prop) → Prop
  | [], I, μ, a, f => f a I μ
  | (i, k) :: r, I, μ, a, f => ∀ x : k.T, allS r (I x) (μ x) { a with tmps := a.tmps.setIfInBounds i (k.val x) } f
def allC : (L : List (Nat × VK)) → KPred L → Act → (Act → (World → Prop) → Prop) → Prop
  | [], I, a, f => f a I
  | (i, k) :: r, I, a, f => ∀ x : k.T, allC r (I x) { a with tmps := a.tmps.setIfInBounds i (k.val x) } f
def junkA (j : Nat → Value) : List Nat → Array Value → Array Value
  | [], t => t
  | i :: r, t => junkA j r (t.setIfInBounds i (j i))
def written : Code → List Nat
  | .region _ ops _ => dsts ops.toList
  | .seq x y => written x ++ written y
  | .cond _ x y => written x ++ written y
  | .block _ c => written c
  | .loop c => written c
  | _ => []
def vc (P : Program) : HT → Code → (Exit → Act → World → Prop) → Act → World → Prop
  | _, .skip, Q, a, w => Q .normal a w
  | .region r, .region _ ops draw, Q, a, w => vRegion C P r ops draw (fun a' w' => Q .normal a' w') a w
  | .seq none h1 h2, .seq x y, Q, a, w => vc P h1 x (Exit.then (vc P h2 y Q) Q) a w
  | .seq (some L) h1 h2, .seq x y, Q, a, w => ∃ J : KPred L,
      vc P h1 x (Exit.then (fun a' w' => readS L J a' w') Q) a w ∧
      ∀ j : Nat → Value, allC L J { a with tmps := junkA j (written x) a.tmps } fun a1 J1 => ∀ w1, J1 w1 → vc P h2 y Q a1 w1
  | .cond h1 h2, .cond c x y, Q, a, w => match a.eval c with
    | .bool b => condP b (vc P h1 x Q a w) (vc P h2 y Q a w)
    | _ => False
  | .block h, .block id c, Q, a, w => vc P h c (Exit.inBlock id Q) a w
  | .loop L h, .loop c, Q, a, w => ∃ (I : KPred L) (μ : KMeas L), readS L I a w ∧
      ∀ j : Nat → Value, allS L I μ { a with tmps := junkA j (written c) a.tmps } fun a1 I1 m => ∀ w1, I1 w1 →
        vc P h c (Exit.then (fun a2 w2 => readM L I μ a2 (m w1) w2) Q) a1 w1
  | _, .exit id, Q, a, w => Q (.exit id) a w
  | _, .ret, Q, a, w => Q .ret a w
  | _, _, _, _, _ => False
def vcOk (P : Program) : HT → Code → Bool
  | .region r, .region _ ops draw => rOk r ops draw
  | .seq _ h1 h2, .seq x y => vcOk P h1 x && vcOk P h2 y
  | .cond h1 h2, .cond _ x y => vcOk P h1 x && vcOk P h2 y
  | .block h, .block _ c => vcOk P h c
  | .loop _ h, .loop c => vcOk P h c
  | _, _ => true
end Go.Proofs.Ytddpjdlhgggbkaa.VC
