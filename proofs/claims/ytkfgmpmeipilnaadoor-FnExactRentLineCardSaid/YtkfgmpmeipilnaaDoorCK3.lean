/-
  What each operation does: its value, the rows that go, the rows that turn, the new rows, by its operands and the rows that they lead to. No condition.
-/
import Derived.Test.YtkfgmpmeipilnaaDoorCK2
import Derived.KernelRfl
import Derived.ChangeArms
import Derived.Deep.Slices
import Derived.WalkKit
import Derived.ProofKit
import Derived.OpenShut
import Derived.ShutString
import Derived.ChangeOld
import Derived.Below
import Derived.Carry
namespace Go.Proofs.YtkfgmpmeipilnaaDoor.Ax
open Go Go.RowKit

/-- Operations that may turn a row (calls: by what is called). -/
def wrs : Op → Bool
  | .move _ => false
  | .assign _ => false
  | .pick _ _ _ => false
  | .binOp _ _ _ _ _ => false
  | .unOp _ _ _ => false
  | .convert _ _ _ => false
  | .index _ _ _ => false
  | .indexAddr _ _ _ => false
  | .load _ _ => false
  | .makeFunc _ _ _ => false
  | .fieldAddr _ _ _ => false
  | .extract _ _ => false
  | .slice _ _ _ _ _ => false
  | .build _ _ => false
  | .makeSlice _ _ _ => false
  | .alloc _ => false
  | .box _ _ => false
  | .call c => (match c.callee with
    | .builtin .len => false
    | .builtin .max => false
    | .builtin .cap => false
    | .builtin .min => false
    | .value _ => false
    | _ => true)
  | _ => true

def opR (slots : List AV) (op : Op) : List Nat := refsL (op.operands.toList.map (ev slots))

def Loc (C : Ctx) (op : Op) (slots : List AV) (toks : List Tok) (r : Out) : Prop :=
  ∃ (ks : List (Bool × Nat)) (ss : List (Nat × Tok)) (m : List Tok), r.slots = kls ks slots ∧ r.toks = sets ss toks ++ m ∧ (∀ k ∈ ks, k.2 ∈ opR slots op) ∧ (∀ s ∈ ss, s.1 ∈ opR slots op) ∧
    (wrs op = false → (∀ f a, C.M f a = none) → (∀ f a, C.V f a = none) → ks = [] ∧ ss = []) ∧ (∀ t ∈ refs r.val, t ∈ opR slots op ∨ (toks.length ≤ t ∧ t < toks.length + m.length)) ∧
    ∀ slots' (toks' : List Tok), (∀ y ∈ op.operands.toList, ev slots' y = ev slots y) → toks'.length = toks.length → (∀ t ∈ opR slots op, toks'[t]? = toks[t]?) → aop C op slots' toks' = some ⟨r.val, kls ks slots', sets ss toks' ++ m⟩

section
variable {C : Ctx} {slots : List AV} {toks : List Tok} {r : Out}

theorem loc_pure {op : Op} (h : aop C op slots toks = some r) (hsl : r.slots = slots ∧ r.toks = toks) (hv : ∀ t ∈ refs r.val, t ∈ opR slots op)
    (key : ∀ slots' (toks' : List Tok), (∀ y ∈ op.operands.toList, ev slots' y = ev slots y) → (∀ t ∈ opR slots op, toks'[t]? = toks[t]?) → aop C op slots' toks' = (aop C op slots toks).map fun r => ⟨r.val, slots', toks'⟩) : Loc C op slots toks r :=
  ⟨[], [], [], by simpa [kls] using hsl.1, by simpa [sets] using hsl.2, by simp, by simp, fun _ _ _ => ⟨rfl, rfl⟩, fun t ht => .inl (hv t ht), fun slots' toks' h1 _ h3 => by rw [key slots' toks' h1 h3, h]; simp [kls, sets]⟩

theorem loc_new {op : Op} {m : List Tok} (hsl : r.slots = slots ∧ r.toks = toks ++ m) (hv : ∀ t ∈ refs r.val, t ∈ opR slots op ∨ (toks.length ≤ t ∧ t < toks.length + m.length))
    (key : ∀ slots' (toks' : List Tok), (∀ y ∈ op.operands.toList, ev slots' y = ev slots y) → toks'.length = toks.length → (∀ t ∈ opR slots op, toks'[t]? = toks[t]?) → aop C op slots' toks' = some ⟨r.val, slots', toks' ++ m⟩) : Loc C op slots toks r :=
  ⟨[], [], m, by simpa [kls] using hsl.1, by simpa [sets] using hsl.2, by simp, by simp, fun _ _ _ => ⟨rfl, rfl⟩, hv, fun slots' toks' h1 h2 h3 => by rw [key slots' toks' h1 h2 h3]; simp [kls, sets]⟩

theorem okL_get : ∀ {cs : List AV} {i : Nat} {c : AV}, okL cs → cs[i]? = some c → okA c
  | [], _, _, _, h => by simp at h
  | c :: cs, 0, c', h, hi => by simp only [okL] at h; simp at hi; subst hi; exact h.1
  | c :: cs, i + 1, c', h, hi => by simp only [okL] at h; exact okL_get h.2 (by simpa using hi)

theorem refsL_get {cs : List AV} {i : Nat} {c : AV} (h : cs[i]? = some c) : ∀ t ∈ refs c, t ∈ refsL cs :=
  fun t ht => refsL_map_mem.refsL_mem' cs c (List.mem_of_getElem? h) t ht

theorem loadCell_refs {t : Nat} {p : List (Nat × Nat)} {i j : Nat} {c : AV} (hc : pureA c) : ∀ x ∈ refs (loadCell t p i j c), x = t := by
  intro x hx
  cases c with
  | sl nl sz es => simpa [loadCell, refs] using hx
  | v x => simp [loadCell, refs] at hx
  | fp e k => simp [loadCell, refs] at hx
  | fn f cs => rw [loadCell, pure_refs _ hc] at hx; simp at hx
  | _ => simp [loadCell, refs] at hx
theorem loadCells_refs {t : Nat} {p : List (Nat × Nat)} {i : Nat} : ∀ {j : Nat} {cs : List AV}, pureL cs → ∀ x ∈ refsL (loadCells t p i j cs), x = t
  | _, [], _, x, hx => by simp [loadCells, refsL] at hx
  | j, c :: cs, h, x, hx => by
    simp only [pureL] at h
    simp only [loadCells, refsL, List.mem_append] at hx
    exact hx.elim (loadCell_refs h.1 x) (loadCells_refs h.2 x)

theorem bld_refs {fields : List Field} {S : Nat → Prop} : ∀ {ps : List (Nat × AV)} {cells cs : List AV}, bld C fields ps cells = some cs → (∀ t ∈ refsL cells, S t) → (∀ p ∈ ps, ∀ t ∈ refs p.2, S t) → ∀ t ∈ refsL cs, S t
  | [], cells, cs, h, hc, _, t, ht => by simp only [bld, Option.some.injEq] at h; subst h; exact hc t ht
  | (i, x) :: rest, cells, cs, h, hc, hp, t, ht => by
    simp only [bld] at h
    split at h
    · split at h
      · split at h
        · have happ : ∀ {a b : List AV} t, t ∈ refsL (a ++ b) ↔ t ∈ refsL a ∨ t ∈ refsL b := fun {a b} t => by rw [refsL_app, List.mem_append]
          have hsub : ∀ {a b : List AV}, (∀ y ∈ a, y ∈ b) → ∀ t ∈ refsL a, t ∈ refsL b := by
            intro a b hab t ht
            obtain ⟨y, hy, hty⟩ : ∃ y ∈ a, t ∈ refs y := by
              clear hab
              induction a with
              | nil => simp [refsL] at ht
              | cons c cs ih =>
                simp only [refsL, List.mem_append] at ht
                rcases ht with ht | ht
                · exact ⟨c, by simp, ht⟩
                · obtain ⟨y, hy, h⟩ := ih ht; exact ⟨y, by simp [hy], h⟩
            exact refsL_map_mem.refsL_mem' b y (hab y hy) t hty
          refine bld_refs h (fun t ht => ?_) (fun p hp' => hp p (by simp [hp'])) t ht
          rw [happ, happ] at ht
          rcases ht with (ht | ht) | ht
          · exact hc t (hsub (fun y hy => List.mem_of_mem_take hy) t ht)
          · refine hp (i, x) (by simp) t ?_
            cases x with
            | agg cs => simpa [AV.cells, refs] using ht
            | _ => simpa [AV.cells, refsL] using ht
          · exact hc t (hsub (fun y hy => List.mem_of_mem_drop hy) t ht)
        · simp at h
      · simp at h
    · simp at h

/-- An operation's own words. -/
theorem appO_loc {args : Array Operand} {ts : Array TypeId} (h : appO C { callee := .builtin .append, args := args, argTypes := ts } slots toks = some r) : Loc C (.call { callee := .builtin .append, args := args, argTypes := ts }) slots toks r := by
  have hmem : ∀ x ∈ args.toList, x ∈ (Op.call { callee := .builtin .append, args := args, argTypes := ts }).operands.toList := fun x hx => by simp [Op.operands, Call.operands]; simpa using hx
  simp only [appO] at h
  split at h
  rotate_left
  · simp at h
  rename_i x y t t' hx ht
  split at h
  rotate_left
  · rename_i htt
    have hxm := hmem x (by rw [hx]; simp)
    have hym := hmem y (by rw [hx]; simp)
    split at h
    rotate_left
    · simp at h
    rename_i ti ti' sz n hti hti' hxe hye
    split at h
    rotate_left
    · simp at h
    rename_i el k hd hd'
    split at h
    rotate_left
    · simp at h
    rename_i te hte
    split at h
    rotate_left
    · simp at h
    rename_i hc
    simp only [Option.some.injEq] at h; subst h
    refine ⟨[], [], _, rfl, rfl, by simp, by simp, fun _ _ _ => ⟨rfl, rfl⟩, fun t ht => .inr (by simp only [refs, List.mem_singleton] at ht; subst ht; simp), fun s k hs hl hk => ?_⟩
    simp only [aop, appO, hx, ht, if_neg htt, hti, hti', hd, hd', hte, hs x hxm, hs y hym, hxe, hye, if_pos hc, kls, sets, hl, alt_some]
  rename_i htt
  split at h
  rotate_left
  · simp at h
  rename_i ti hti
  split at h
  rotate_left
  · simp at h
  rename_i el hd
  split at h
  rotate_left
  · simp at h
  rename_i te hte
  split at h
  rotate_left
  · simp at h
  rename_i es ux dx nl ys uy dy hX hY
  split at h
  rotate_left
  · simp at h
  rename_i hc
  simp only [Option.some.injEq] at h; subst h
  have hxm := hmem x (by rw [hx]; simp)
  have hym := hmem y (by rw [hx]; simp)
  have hqr : ∀ t0 ∈ ux ++ uy, t0 ∈ opR slots (.call { callee := .builtin .append, args := args, argTypes := ts }) := fun t0 ht0 => by
    rcases List.mem_append.1 ht0 with h | h
    · exact refsL_map_mem hxm t0 (appX_refs hX t0 h)
    · exact refsL_map_mem hym t0 (appY_refs hY t0 h)
  rw [drops_eq]
  refine ⟨(ux ++ uy).map fun t => (true, t), (ux ++ uy).map fun t => (t, ⟨true, .junk⟩), _, rfl, rfl, fun k hk => ?_, fun k hk => ?_, by simp [wrs], fun t ht => .inr (by simp only [refs, List.mem_singleton] at ht; subst ht; simp), fun s k hs hl hk => ?_⟩
  · obtain ⟨t, ht, rfl⟩ := List.mem_map.1 hk; exact hqr t ht
  · obtain ⟨t, ht, rfl⟩ := List.mem_map.1 hk; exact hqr t ht
  · simp only [aop, appO, hx, ht, if_pos htt, hti, hd, hte, hs x hxm, hs y hym]
    rw [appX_congr _ (fun t ht => hk t (refsL_map_mem hxm t ht)), appY_congr _ (fun t ht => hk t (refsL_map_mem hym t ht)), hX, hY]
    simp only [if_pos hc, drops_eq, hl, alt_some]

theorem appU_loc {args : Array Operand} {ts : Array TypeId} (h : appU C { callee := .builtin .append, args := args, argTypes := ts } slots toks = some r) : Loc C (.call { callee := .builtin .append, args := args, argTypes := ts }) slots toks r := by
  have hmem : ∀ x ∈ args.toList, x ∈ (Op.call { callee := .builtin .append, args := args, argTypes := ts }).operands.toList := fun x hx => by simp [Op.operands, Call.operands]; simpa using hx
  simp only [appU] at h
  split at h
  rotate_left
  · simp at h
  rename_i x y t t' hx ht
  split at h
  rotate_left
  · simp at h
  rename_i htt
  subst htt
  split at h
  rotate_left
  · simp at h
  rename_i ti hti
  split at h
  rotate_left
  · simp at h
  rename_i el hd
  split at h
  rotate_left
  · simp at h
  rename_i te hte
  split at h
  rotate_left
  · simp at h
  rename_i es k tk' nl ys uy dy hX hY
  split at h
  rotate_left
  · simp at h
  rename_i hc
  simp only [Option.some.injEq] at h; subst h
  have hxm := hmem x (by rw [hx]; simp)
  have hym := hmem y (by rw [hx]; simp)
  have hX0 := upX_ok hX
  obtain ⟨q, p, tk, sz', hxe, htk, _⟩ := hX0
  have hkR : k ∈ opR slots (.call { callee := .builtin .append, args := args, argTypes := ts }) := refsL_map_mem hxm k (by rw [hxe]; simp [refs])
  have hqr : ∀ t0 ∈ uy, t0 ∈ opR slots (.call { callee := .builtin .append, args := args, argTypes := ts }) := fun t0 ht0 => refsL_map_mem hym t0 (appY_refs hY t0 ht0)
  have hupc : ∀ toks' : List Tok, toks'[k]? = toks[k]? → upX te.size toks' (ev slots x) = upX te.size toks (ev slots x) := fun toks' hk' => by
    rw [hxe]; simp only [upX, hk']
  rw [drops_eq]
  refine ⟨(false, k) :: uy.map fun t => (true, t), (k, tk') :: uy.map fun t => (t, ⟨true, .junk⟩), _, rfl, rfl, fun k' hk' => ?_, fun k' hk' => ?_, by simp [wrs], fun t ht => .inr (by simp only [refs, List.mem_singleton] at ht; subst ht; simp), fun s k' hs hl hk' => ?_⟩
  · rcases List.mem_cons.1 hk' with rfl | hk'
    · exact hkR
    · obtain ⟨t, ht, rfl⟩ := List.mem_map.1 hk'; exact hqr t ht
  · rcases List.mem_cons.1 hk' with rfl | hk'
    · exact hkR
    · obtain ⟨t, ht, rfl⟩ := List.mem_map.1 hk'; exact hqr t ht
  · have h0 : appO C { callee := .builtin .append, args := args, argTypes := ts } s k' = none := by
      simp only [appO, hx, ht, if_true, hti, hd, hte, hs x hxm, hxe, appX]
    simp only [aop, h0, alt_none, appU, hx, ht, if_true, hti, hd, hte, hs x hxm, hs y hym]
    rw [hupc k' (hk' k hkR), hX, appY_congr _ (fun t ht => hk' t (refsL_map_mem hym t ht)), hY]
    simp only [if_pos hc, drops_eq, hl, kls, sets]
    rfl

theorem aop_loc {op : Op} (hok : ∀ y ∈ op.operands.toList, okA (ev slots y)) (htk : ∀ (t : Nat) (tk : Tok), toks[t]? = some tk → pureA tk.row) (h : aop C op slots toks = some r) : Loc C op slots toks r := by
  have h0 := h
  cases op with
  | move x => simp only [aop, Option.some.injEq] at h; subst h; exact loc_pure h0 ⟨rfl, rfl⟩ (fun t ht => by simpa [opR, Op.operands, refsL] using ht) fun s k hs hk => by simp only [aop, hs x (by simp [Op.operands])]; rfl
  | assign x => simp only [aop, Option.some.injEq] at h; subst h; exact loc_pure h0 ⟨rfl, rfl⟩ (fun t ht => by simpa [opR, Op.operands, refsL] using ht) fun s k hs hk => by simp only [aop, hs x (by simp [Op.operands])]; rfl
  | pick c x y =>
    simp only [aop] at h
    split at h
    · rename_i t ht
      simp only [Option.some.injEq] at h; subst h
      refine loc_pure h0 ⟨rfl, rfl⟩ (fun t' ht' => ?_) fun s k hs hk => by simp only [aop, hs c (by simp [Op.operands]), hs x (by simp [Op.operands]), hs y (by simp [Op.operands]), ht]; rfl
      have : t' ∈ refs (ev slots x) ∨ t' ∈ refs (ev slots y) := by
        simp only [pickAV] at ht'
        split at ht'
        · simp [refs] at ht'
        · cases t <;> simp at ht' <;> simp [ht']
      simp only [opR, Op.operands, List.map_cons, refsL, List.mem_append]
      rcases this with h | h <;> simp [h]
    · simp at h
  | binOp op t x y t' =>
    have hsl : r.slots = slots ∧ r.toks = toks ∧ refs r.val = [] := by
      simp only [aop] at h
      (repeat' split at h) <;> first | (simp at h; done) | (simp only [Option.some.injEq] at h; subst h; exact ⟨rfl, rfl, rfl⟩)
    refine loc_pure h0 ⟨hsl.1, hsl.2.1⟩ (by rw [hsl.2.2]; simp) fun s k hs hk => ?_
    have hn : nilAV k (ev slots x) = nilAV toks (ev slots x) := nilAV_congr _ fun t ht => hk t (refsL_map_mem (y := x) (by simp [Op.operands]) t ht)
    simp only [aop, hs x (by simp [Op.operands]), hs y (by simp [Op.operands]), hn]
    clear hn hsl h0
    generalize nilAV toks (ev slots x) = q
    (repeat' split) <;> simp_all
  | convert sT dT x =>
    have hsl : r.slots = slots ∧ r.toks = toks ∧ refs r.val = [] := by
      simp only [aop] at h
      (repeat' split at h) <;> first | (simp at h; done) | (simp only [Option.some.injEq] at h; subst h; exact ⟨rfl, rfl, rfl⟩)
    refine loc_pure h0 ⟨hsl.1, hsl.2.1⟩ (by rw [hsl.2.2]; simp) fun s k hs hk => ?_
    have hn : res k (ev slots x) = res toks (ev slots x) := res_congr _ fun t ht => hk t (refsL_map_mem (y := x) (by simp [Op.operands]) t ht)
    simp only [aop, hs x (by simp [Op.operands]), hn]
    (repeat' split) <;> simp_all
  | index t x ix =>
    have hsl : r.slots = slots ∧ r.toks = toks ∧ refs r.val = [] := by
      simp only [aop] at h
      (repeat' split at h) <;> first | (simp at h; done) | (simp only [Option.some.injEq] at h; subst h; exact ⟨rfl, rfl, rfl⟩)
    refine loc_pure h0 ⟨hsl.1, hsl.2.1⟩ (by rw [hsl.2.2]; simp) fun s k hs hk => ?_
    simp only [aop, hs x (by simp [Op.operands]), hs ix (by simp [Op.operands])]
    (repeat' split) <;> simp_all
  | unOp op t x =>
    have hsl : r.slots = slots ∧ r.toks = toks ∧ refs r.val = [] := by
      simp only [aop] at h
      split at h
      · simp only [Option.map_eq_some_iff] at h; obtain ⟨z, _, rfl⟩ := h; exact ⟨rfl, rfl, rfl⟩
      · simp at h
    refine loc_pure h0 ⟨hsl.1, hsl.2.1⟩ (by rw [hsl.2.2]; simp) fun s k hs hk => ?_
    simp only [aop, hs x (by simp [Op.operands])]
    split <;> simp [Function.comp_def]
  | alloc t =>
    simp only [aop] at h
    split at h
    · rename_i ti hti
      simp only [Option.some.injEq] at h; subst h
      refine loc_new ⟨rfl, rfl⟩ (fun t ht => .inr (by simp only [refs, List.mem_singleton] at ht; subst ht; simp)) fun s k hs hl hk => ?_
      simp only [aop, hti, hl]
    · simp at h
  | box t x =>
    simp only [aop] at h
    split at h
    · rename_i ti hti
      split at h
      · rename_i hf
        simp only [Option.some.injEq] at h; subst h
        refine loc_new ⟨rfl, rfl⟩ (fun t ht => .inr (by simp only [refs, List.mem_singleton] at ht; subst ht; simp)) fun s k hs hl hk => ?_
        simp only [aop, hti, hl, hs x (by simp [Op.operands]), if_pos hf]
      · simp at h
    · simp at h
  | indexAddr t x ix =>
    have hsl : r.slots = slots ∧ r.toks = toks ∧ ∀ t ∈ refs r.val, t ∈ refs (ev slots x) := by
      simp only [aop] at h
      (repeat' split at h) <;> first | (simp at h; done) | (simp only [Option.some.injEq] at h; subst h; refine ⟨rfl, rfl, ?_⟩; simp_all [refs])
    refine loc_pure h0 ⟨hsl.1, hsl.2.1⟩ (fun t ht => refsL_map_mem (y := x) (by simp [Op.operands]) t (hsl.2.2 t ht)) fun s k hs hk => ?_
    have hx : ∀ t ∈ refs (ev slots x), k[t]? = toks[t]? := fun t ht => hk t (refsL_map_mem (y := x) (by simp [Op.operands]) t ht)
    simp only [aop, hs x (by simp [Op.operands]), hs ix (by simp [Op.operands])]
    split
    · split
      · (repeat' split) <;> simp_all
      · rename_i el k' p lo n hd hke
        rw [hke] at hx
        rw [hx k' (by simp [refs])]
        (repeat' split) <;> simp_all
      · simp
    · simp
  | load t x =>
    have hxo := hok x (by simp [Op.operands])
    have hsl : r.slots = slots ∧ r.toks = toks ∧ ∀ t ∈ refs r.val, t ∈ refs (ev slots x) := by
      simp only [aop] at h
      split at h
      · split at h
        · rename_i e j hx
          rw [hx] at hxo
          simp only [okA] at hxo
          split at h
          · split at h
            · split at h
              · simp only [Option.some.injEq] at h; subst h
                refine ⟨rfl, rfl, fun t ht => ?_⟩
                simp only [pureA] at hxo
                rw [refs, pureL_refs _ hxo] at ht; simp at ht
              · simp at h
            · simp at h
          · split at h
            · rename_i c hc
              simp only [Option.some.injEq] at h; subst h
              refine ⟨rfl, rfl, fun t ht => ?_⟩
              simp only [] at ht
              rw [pure_refs _ (pureA_cell hxo hc)] at ht; simp at ht
            · simp at h
        · rename_i k p i j hx
          split at h
          · rename_i tk htk'
            split at h
            · rename_i nl sz es hg
              have hpr := pureA_getAt p (htk _ _ htk')
              rw [hg] at hpr
              simp only [pureA] at hpr
              split at h
              · rename_i e he
                have hpe := pureL_get hpr he
                split at h
                · split at h
                  · rename_i cs
                    split at h
                    · simp only [Option.some.injEq] at h; subst h
                      refine ⟨rfl, rfl, fun t ht => ?_⟩
                      simp only [pureA] at hpe
                      simp only [refs] at ht
                      have := loadCells_refs hpe t ht
                      rw [hx]; simp [refs, this]
                    · simp at h
                  · simp at h
                · split at h
                  · rename_i c hc
                    simp only [Option.some.injEq] at h; subst h
                    refine ⟨rfl, rfl, fun t ht => ?_⟩
                    have := loadCell_refs (pureA_cell hpe hc) t ht
                    rw [hx]; simp [refs, this]
                  · simp at h
              · simp at h
            · simp at h
          · simp at h
        · simp at h
      · simp at h
    refine loc_pure h0 ⟨hsl.1, hsl.2.1⟩ (fun t ht => refsL_map_mem (y := x) (by simp [Op.operands]) t (hsl.2.2 t ht)) fun s k hs hk => ?_
    have hx : ∀ t ∈ refs (ev slots x), k[t]? = toks[t]? := fun t ht => hk t (refsL_map_mem (y := x) (by simp [Op.operands]) t ht)
    simp only [aop, hs x (by simp [Op.operands])]
    split
    · split
      · (repeat' split) <;> simp_all
      · rename_i k' p i j hke
        rw [hke] at hx
        rw [hx k' (by simp [refs])]
        (repeat' split) <;> simp_all
      · simp
    · simp
  | fieldAddr t x f =>
    have hsl : r.slots = slots ∧ r.toks = toks ∧ ∀ t ∈ refs r.val, t ∈ refs (ev slots x) := by
      simp only [aop] at h
      (repeat' split at h) <;> first | (simp at h; done) | (simp only [Option.some.injEq] at h; subst h; refine ⟨rfl, rfl, ?_⟩; simp_all [refs])
    refine loc_pure h0 ⟨hsl.1, hsl.2.1⟩ (fun t ht => refsL_map_mem (y := x) (by simp [Op.operands]) t (hsl.2.2 t ht)) fun s k hs hk => ?_
    have hx : ∀ t ∈ refs (ev slots x), k[t]? = toks[t]? := fun t ht => hk t (refsL_map_mem (y := x) (by simp [Op.operands]) t ht)
    simp only [aop, hs x (by simp [Op.operands])]
    split
    · split
      · split
        · split
          · split
            · split
              · rename_i k' p i j hke
                rw [hke] at hx
                rw [hx k' (by simp [refs])]
                (repeat' split) <;> simp_all
              · simp
              · simp
            · simp
          · simp
        · simp
      · simp
    · simp
  | extract x i =>
    simp only [aop] at h
    split at h
    · rename_i vs hx
      split at h
      · rename_i v hv
        simp only [Option.some.injEq] at h; subst h
        refine loc_pure h0 ⟨rfl, rfl⟩ (fun t ht => refsL_map_mem (y := x) (by simp [Op.operands]) t (by rw [hx]; simp only [refs]; exact refsL_get hv t ht)) fun s k hs hk => ?_
        simp only [aop, hs x (by simp [Op.operands]), hx, hv]; rfl
      · simp at h
    · simp at h
  | slice t x lo hi mx =>
    cases mx with
    | some m => simp [aop] at h
    | none =>
      have hsl : r.slots = slots ∧ r.toks = toks ∧ ∀ t ∈ refs r.val, t ∈ refs (ev slots x) := by
        simp only [aop] at h
        (repeat' split at h) <;> first | (simp at h; done) | (simp only [Option.some.injEq] at h; subst h; refine ⟨rfl, rfl, ?_⟩; simp_all [refs])
      refine loc_pure h0 ⟨hsl.1, hsl.2.1⟩ (fun t ht => refsL_map_mem (y := x) (by simp [Op.operands]) t (hsl.2.2 t ht)) fun s k hs hk => ?_
      have hx : ∀ t ∈ refs (ev slots x), k[t]? = toks[t]? := fun t ht => hk t (refsL_map_mem (y := x) (by simp [Op.operands]) t ht)
      have e1 : ∀ d, bndOf s d lo = bndOf slots d lo := fun d => by
        cases lo with
        | none => rfl
        | some y => simp only [bndOf]; rw [hs y (by simp [Op.operands])]
      have e2 : ∀ d, bndOf s d hi = bndOf slots d hi := fun d => by
        cases hi with
        | none => rfl
        | some y => simp only [bndOf]; rw [hs y (by simp [Op.operands])]
      simp only [aop, hs x (by simp [Op.operands]), e1, e2]
      split
      · split
        · (repeat' split) <;> simp_all
        · rename_i el k' p lo0 n hd hke
          rw [hke] at hx
          rw [hx k' (by simp [refs])]
          (repeat' split) <;> simp_all
        · (repeat' split) <;> simp_all
        · simp
      · simp
  | makeSlice t l c =>
    simp only [aop] at h
    split at h
    · rename_i ti n n' h1 h2 h3
      split at h
      · rename_i el hd
        split at h
        · rename_i te hte
          split at h
          · rename_i hc
            simp only [Option.some.injEq] at h; subst h
            refine loc_new ⟨rfl, rfl⟩ (fun t ht => .inr (by simp only [refs, List.mem_singleton] at ht; subst ht; simp)) fun s k hs hl hk => ?_
            simp only [aop, hs l (by simp [Op.operands]), hs c (by simp [Op.operands]), h1, h2, h3, hd, hte, if_pos hc, hl]
          · simp at h
        · simp at h
      · simp at h
    · simp at h
  | build t parts =>
    have e0 : ∀ y : Operand, (∃ p ∈ parts.toList, y = p.2) → y ∈ (Op.build t parts).operands.toList := fun y ⟨p, hp, e⟩ => by simp only [Op.operands]; exact List.mem_map.2 ⟨p, hp, e.symm⟩
    have hsl : r.slots = slots ∧ r.toks = toks ∧ ∀ x ∈ refs r.val, x ∈ opR slots (.build t parts) := by
      simp only [aop] at h
      split at h
      · split at h
        · split at h
          · simp at h
          · simp only [Option.map_eq_some_iff] at h
            obtain ⟨cs, hcs, rfl⟩ := h
            refine ⟨rfl, rfl, fun x hx => ?_⟩
            simp only [refs] at hx
            refine bld_refs (S := fun x => x ∈ opR slots (.build t parts)) hcs (fun t' ht' => ?_) (fun p hp t' ht' => ?_) x hx
            · have hz : ∀ v, refsL (ofV v).cells = [] := fun v => by
                have := ofV_refs v
                cases hz : ofV v with
                | agg cs => rw [hz] at this; simpa [AV.cells, refs] using this
                | _ => rw [hz] at this; simpa [AV.cells, refsL] using this
              rw [hz] at ht'; simp at ht'
            · obtain ⟨p', hp', rfl⟩ := List.mem_map.1 hp
              exact refsL_map_mem (y := p'.2) (e0 _ ⟨p', hp', rfl⟩) t' ht'
        · simp at h
      · simp at h
    refine loc_pure h0 ⟨hsl.1, hsl.2.1⟩ hsl.2.2 fun s k hs hk => ?_
    have e1 : (parts.toList.map fun p => (p.1, ev s p.2)) = parts.toList.map fun p => (p.1, ev slots p.2) := List.map_congr_left fun p hp => by rw [hs p.2 (e0 _ ⟨p, hp, rfl⟩)]
    have e2 : (parts.toList.all fun p => partOk k (ev s p.2)) = parts.toList.all fun p => partOk toks (ev slots p.2) := by
      have key : ∀ p ∈ parts.toList, partOk k (ev s p.2) = partOk toks (ev slots p.2) := fun p hp => by
        rw [hs p.2 (e0 _ ⟨p, hp, rfl⟩)]
        exact partOk_congr _ fun t ht => hk t (refsL_map_mem (y := p.2) (e0 _ ⟨p, hp, rfl⟩) t ht)
      rw [Bool.eq_iff_iff, List.all_eq_true, List.all_eq_true]
      exact ⟨fun h p hp => by rw [← key p hp]; exact h p hp, fun h p hp => by rw [key p hp]; exact h p hp⟩
    simp only [aop, e1, e2]
    (repeat' split) <;> simp [Function.comp_def]
  | buildSlice t len parts =>
    have e0 : ∀ y : Operand, (∃ p ∈ parts.toList, y = p.2) → y ∈ (Op.buildSlice t len parts).operands.toList := fun y ⟨p, hp, e⟩ => by simp only [Op.operands]; exact List.mem_map.2 ⟨p, hp, e.symm⟩
    have e1 : ∀ s, (∀ y ∈ (Op.buildSlice t len parts).operands.toList, ev s y = ev slots y) → (parts.toList.map fun p => ev s p.2) = parts.toList.map fun p => ev slots p.2 := fun s hs =>
      List.map_congr_left fun p hp => hs p.2 (e0 _ ⟨p, hp, rfl⟩)
    have eR : refsL (parts.toList.map fun p => ev slots p.2) = opR slots (.buildSlice t len parts) := by
      unfold opR; simp only [Op.operands, List.map_map]; rfl
    simp only [aop] at h
    split at h
    rotate_left
    · simp at h
    rename_i ti hti
    split at h
    rotate_left
    · simp at h
    rename_i el hd
    split at h
    rotate_left
    · simp at h
    rename_i te hte
    split at h
    rotate_left
    · simp at h
    rename_i hcond
    split at h
    · rename_i q hq
      split at h
      · rename_i hc
        simp only [Option.some.injEq] at h; subst h
        rw [drops_eq]
        have hqr := ownRL_refs _ q hq
        rw [eR] at hqr
        refine ⟨q.2.map fun t => (true, t), q.2.map fun t => (t, ⟨true, .junk⟩), _, rfl, rfl, fun k hk => ?_, fun k hk => ?_, by simp [wrs], fun t ht => .inr (by simp only [refs, List.mem_singleton] at ht; subst ht; simp), fun s k hs hl hk => ?_⟩
        · obtain ⟨t, ht, rfl⟩ := List.mem_map.1 hk; exact hqr t ht
        · obtain ⟨t, ht, rfl⟩ := List.mem_map.1 hk; exact hqr t ht
        · simp only [aop, hti, hd, hte, if_pos hcond, e1 s hs]
          rw [ownRL_congr _ (fun t ht => hk t (by rw [← eR]; exact ht)), hq]
          simp only [if_pos hc, drops_eq, hl]
      · simp at h
    · rename_i hq
      split at h
      · rename_i hc
        simp only [Option.some.injEq] at h; subst h
        refine ⟨[], [], _, rfl, rfl, by simp, by simp, fun _ _ _ => ⟨rfl, rfl⟩, fun t ht => .inr (by simp only [refs, List.mem_singleton] at ht; subst ht; simp), fun s k hs hl hk => ?_⟩
        have e1' : ((parts.toList.map fun p => ev s p.2).all fun v => frz v && decide (v.cells.length = te.size)) = true := by rw [e1 s hs]; exact hc
        simp only [aop, hti, hd, hte, if_pos hcond, e1 s hs]
        rw [ownRL_congr _ (fun t ht => hk t (by rw [← eR]; exact ht)), hq]
        simp only [if_pos hc, kls, sets, hl]
      · rename_i hc0
        split at h
        rotate_left
        · simp at h
        rename_i hc
        simp only [Option.some.injEq] at h; subst h
        rw [drops_eq, eR]
        refine ⟨(opR slots (.buildSlice t len parts)).map fun t => (true, t), (opR slots (.buildSlice t len parts)).map fun t => (t, ⟨true, .junk⟩), _, rfl, rfl, fun k hk => ?_, fun k hk => ?_, by simp [wrs], fun t ht => .inr (by simp only [refs, List.mem_singleton] at ht; subst ht; simp), fun s k hs hl hk => ?_⟩
        · obtain ⟨t, ht, rfl⟩ := List.mem_map.1 hk; exact ht
        · obtain ⟨t, ht, rfl⟩ := List.mem_map.1 hk; exact ht
        · simp only [aop, hti, hd, hte, if_pos hcond, e1 s hs]
          rw [ownRL_congr _ (fun t ht => hk t (by rw [← eR]; exact ht)), resL_congr _ (fun t ht => hk t (by rw [← eR]; exact ht)), hq]
          simp only [if_neg hc0, if_pos hc, drops_eq, eR, hl]
  | makeFunc f first captured =>
    cases f with
    | func f =>
      simp only [aop] at h
      split at h
      · rename_i hf
        simp only [Option.some.injEq] at h; subst h
        refine loc_pure h0 ⟨rfl, rfl⟩ (fun t ht => ?_) fun s k hs hk => ?_
        · simp only [refs] at ht
          have : first = #[] := by simpa using hf
          subst this
          simpa [opR, Op.operands] using ht
        · simp only [aop, if_pos hf]
          have : captured.toList.map (ev s) = captured.toList.map (ev slots) := List.map_congr_left fun x hx => hs x (by simp [Op.operands]; right; simpa using hx)
          rw [this]; rfl
      · simp at h
    | _ => simp [aop] at h
  | store t a x =>
    have hxm : x ∈ (Op.store t a x).operands.toList := by simp [Op.operands]
    have ham : a ∈ (Op.store t a x).operands.toList := by simp [Op.operands]
    simp only [aop] at h
    split at h
    rotate_left
    · simp at h
    rename_i ti hti
    split at h
    · rename_i k i j hpt
      have hkR : k ∈ opR slots (.store t a x) := refsL_map_mem ham k (by rw [hpt]; simp [refs])
      split at h
      rotate_left
      · simp at h
      rename_i tk htk'
      split at h
      rotate_left
      · simp at h
      rename_i nl sz es hrow
      split at h
      rotate_left
      · simp at h
      rename_i e he
      split at h
      · rename_i hc
        simp only [Option.some.injEq] at h; subst h
        refine ⟨[], [(k, _)], [], rfl, by simp only [sets, List.append_nil]; rfl, by simp, by simpa using hkR, by simp [wrs], by simp [refs], fun s k' hs hl hk => ?_⟩
        simp only [aop, hti, hs a ham, hs x hxm, hpt, hk k hkR, htk', hrow, he, if_pos hc, kls, sets, List.append_nil]
      · rename_i hc
        split at h
        · rename_i hc2
          simp only [Option.some.injEq] at h; subst h
          refine ⟨[(false, k)], [(k, _)], [], by simp only [kls]; rfl, by simp only [sets, List.append_nil]; rfl, by simpa using hkR, by simpa using hkR, by simp [wrs], by simp [refs], fun s k' hs hl hk => ?_⟩
          simp only [aop, hti, hs a ham, hs x hxm, hpt, hk k hkR, htk', hrow, he, if_neg hc, if_pos hc2, kls, sets, List.append_nil]
          rfl
        · rename_i hc2
          split at h
          · rename_i q hq
            split at h
            · rename_i hc3
              simp only [Option.some.injEq] at h; subst h
              have hqr : ∀ t' ∈ q.2, t' ∈ opR slots (.store t a x) := fun t' ht' => refsL_map_mem hxm t' (ownR_refs _ q hq t' ht')
              refine ⟨(q.2.map fun t => (true, t)) ++ [(false, k)], (q.2.map fun t => (t, ⟨true, .junk⟩)) ++ [(k, _)], [], by rw [kls_app, drops_eq]; simp only [kls]; rfl, by rw [sets_app, drops_eq]; simp only [sets, List.append_nil]; rfl, fun k' hk' => ?_, fun k' hk' => ?_, by simp [wrs], by simp [refs], fun s k' hs hl hk => ?_⟩
              · rcases List.mem_append.1 hk' with h | h
                · obtain ⟨t', ht', rfl⟩ := List.mem_map.1 h; exact hqr t' ht'
                · simp at h; subst h; exact hkR
              · rcases List.mem_append.1 hk' with h | h
                · obtain ⟨t', ht', rfl⟩ := List.mem_map.1 h; exact hqr t' ht'
                · simp at h; subst h; exact hkR
              · simp only [aop, hti, hs a ham, hs x hxm, hpt, hk k hkR, htk', hrow, he, if_neg hc, if_neg hc2]
                rw [ownR_congr _ (fun t' ht' => hk t' (refsL_map_mem hxm t' ht')), hq]
                simp only [if_pos hc3, kls_app, sets_app, drops_eq, kls, sets, List.append_nil]
                rfl
            · simp at h
          · simp at h
    · rename_i k p i j hnp hpt
      have hkR : k ∈ opR slots (.store t a x) := refsL_map_mem ham k (by rw [hpt]; simp [refs])
      split at h
      rotate_left
      · simp at h
      rename_i tk htk'
      split at h
      rotate_left
      · simp at h
      rename_i nl sz es hg
      split at h
      rotate_left
      · simp at h
      rename_i e he
      split at h
      · rename_i hc
        simp only [Option.some.injEq] at h; subst h
        refine ⟨[(false, k)], [(k, _)], [], by simp only [kls]; rfl, by simp only [sets, List.append_nil]; rfl, by simpa using hkR, by simpa using hkR, by simp [wrs], by simp [refs], fun s k' hs hl hk => ?_⟩
        cases p with
        | nil => exact (hnp rfl).elim
        | cons p0 p =>
          simp only [aop, hti, hs a ham, hs x hxm, hpt, hk k hkR, htk', hg, he, if_pos hc, kls, sets, List.append_nil]
          rfl
      · simp at h
    · simp at h
  | call c =>
    obtain ⟨callee, args, ts⟩ := c
    cases callee with
    | builtin b =>
      have hmem : ∀ x ∈ args.toList, x ∈ (Op.call { callee := .builtin b, args := args, argTypes := ts }).operands.toList := fun x hx => by simp [Op.operands, Call.operands]; simpa using hx
      cases b with
      | len =>
        simp only [aop] at h
        split at h
        · rename_i x t hx ht
          split at h
          · rename_i ti hti
            split at h
            · rename_i el hd
              simp only [Option.map_eq_some_iff] at h
              obtain ⟨n, hn, rfl⟩ := h
              have hxm := hmem x (by rw [hx]; simp)
              refine loc_pure h0 ⟨rfl, rfl⟩ (by simp [refs]) fun s k hs hk => ?_
              simp only [aop, hx, ht, hti, hd, hs x hxm]
              rw [lenAV_congr _ (fun t ht => hk t (refsL_map_mem hxm t ht))]
              simp [Function.comp_def]
            · rename_i hd
              split at h
              · rename_i sv hxs
                simp only [Option.some.injEq] at h; subst h
                have hxm := hmem x (by rw [hx]; simp)
                refine loc_pure h0 ⟨rfl, rfl⟩ (by simp [refs]) fun s k hs hk => ?_
                simp only [aop, hx, ht, hti, hd, hs x hxm, hxs]
                rfl
              · simp at h
            · simp at h
          · simp at h
        · simp at h
      | max =>
        simp only [aop] at h
        split at h
        · rename_i x y hx
          split at h
          · rename_i k a k' b h1 h2
            simp only [Option.some.injEq] at h; subst h
            refine loc_pure h0 ⟨rfl, rfl⟩ (by simp [refs]) fun s k hs hk => ?_
            simp only [aop, hx, hs x (hmem x (by rw [hx]; simp)), hs y (hmem y (by rw [hx]; simp)), h1, h2]; rfl
          · simp at h
        · simp at h
      | min =>
        simp only [aop] at h
        split at h
        · rename_i x y hx
          split at h
          · rename_i k a k' b h1 h2
            simp only [Option.some.injEq] at h; subst h
            refine loc_pure h0 ⟨rfl, rfl⟩ (by simp [refs]) fun s k hs hk => ?_
            simp only [aop, hx, hs x (hmem x (by rw [hx]; simp)), hs y (hmem y (by rw [hx]; simp)), h1, h2]; rfl
          · simp at h
        · simp at h
      | cap =>
        simp only [aop] at h
        split at h
        rotate_left
        · simp at h
        rename_i x t hx ht
        split at h
        rotate_left
        · simp at h
        rename_i ti sz hti hxe
        split at h
        rotate_left
        · simp at h
        rename_i el hd
        simp only [Option.some.injEq] at h; subst h
        refine loc_pure h0 ⟨rfl, rfl⟩ (by simp [refs]) fun s k hs hk => ?_
        simp only [aop, hx, ht, hti, hd, hs x (hmem x (by rw [hx]; simp)), hxe]; rfl
      | copy =>
        simp only [aop] at h
        split at h
        rotate_left
        · simp at h
        rename_i x y t t2 hx ht
        split at h
        rotate_left
        · simp at h
        rename_i ti k lo n nl2 sz' ys hti hxe hye
        split at h
        rotate_left
        · simp at h
        rename_i el tk hd htk'
        split at h
        rotate_left
        · simp at h
        rename_i te nl sz es hte hrow
        split at h
        rotate_left
        · simp at h
        rename_i hc
        simp only [Option.some.injEq] at h; subst h
        have hxm := hmem x (by rw [hx]; simp)
        have hym := hmem y (by rw [hx]; simp)
        have hkR : k ∈ opR slots (.call { callee := .builtin .copy, args := args, argTypes := ts }) := refsL_map_mem hxm k (by rw [hxe]; simp [refs])
        refine ⟨[(false, k)], [(k, _)], [], by simp only [kls]; rfl, by simp only [sets, List.append_nil]; rfl, by simpa using hkR, by simpa using hkR, by simp [wrs], by simp [refs], fun s k' hs hl hk => ?_⟩
        have hyk : res k' (ev slots y) = res toks (ev slots y) := res_congr _ fun t ht => hk t (refsL_map_mem hym t ht)
        simp only [aop, hx, ht, hti, hd, hte, hs x hxm, hs y hym, hxe, hyk, hye, hk k hkR, htk', hrow, if_pos hc, kls, sets, List.append_nil]
        rfl
      | append =>
        simp only [aop] at h
        rcases alt_eq h with h | h
        · exact appO_loc h
        · exact appU_loc h
      | _ => simp [aop] at h
    | value f =>
      have hfm : f ∈ (Op.call { callee := .value f, args := args, argTypes := ts }).operands.toList := by simp [Op.operands, Call.operands]
      have hmem : ∀ x ∈ args.toList, x ∈ (Op.call { callee := .value f, args := args, argTypes := ts }).operands.toList := fun x hx => by simp [Op.operands, Call.operands]; right; simpa using hx
      simp only [aop] at h
      split at h
      rotate_left
      · simp at h
      rename_i g caps hf
      have hcR : ∀ t ∈ refsL caps, t ∈ opR slots (.call { callee := .value f, args := args, argTypes := ts }) := fun t ht => refsL_map_mem hfm t (by rw [hf]; simpa [refs] using ht)
      have eA : ∀ s (k : List Tok), (∀ y ∈ (Op.call { callee := .value f, args := args, argTypes := ts }).operands.toList, ev s y = ev slots y) → (∀ t ∈ opR slots (.call { callee := .value f, args := args, argTypes := ts }), k[t]? = toks[t]?) →
          args.toList.map (fun x => res k (ev s x)) ++ resL k caps = args.toList.map (fun x => res toks (ev slots x)) ++ resL toks caps := fun s k hs hk => by
        rw [resL_congr caps fun t ht => hk t (hcR t ht)]
        congr 1
        refine List.map_congr_left fun x hx => ?_
        rw [hs x (hmem x hx)]
        exact res_congr _ fun t ht => hk t (refsL_map_mem (hmem x hx) t ht)
      have eB : ∀ s, (∀ y ∈ (Op.call { callee := .value f, args := args, argTypes := ts }).operands.toList, ev s y = ev slots y) → args.toList.map (ev s) = args.toList.map (ev slots) := fun s hs =>
        List.map_congr_left fun x hx => hs x (hmem x hx)
      split at h
      · rename_i z hz
        simp only [Option.some.injEq] at h; subst h
        obtain ⟨m, g1, g2, g3⟩ := intern_loc z toks
        refine loc_new (m := m) ⟨rfl, g1⟩ (fun t ht => .inr (g2 t ht)) fun s k hs hl hk => ?_
        simp only [aop, hs f hfm, hf, eA s k hs hk, hz, g3 k hl]
      · rename_i hz
        have h1 := alt_eq h
        have hargR : ∀ (i : Nat) (x : AV), (args.toList.map (ev slots))[i]? = some x → ∀ t ∈ refs x, t ∈ opR slots (.call { callee := .value f, args := args, argTypes := ts }) := fun i x hi t ht => by
          rw [List.getElem?_map, Option.map_eq_some_iff] at hi
          obtain ⟨y, hy, rfl⟩ := hi
          exact refsL_map_mem (hmem y (List.mem_of_getElem? hy)) t ht
        cases hM : mutCall slots toks (args.toList.map (ev slots)) caps (C.M g (args.toList.map (fun x => res toks (ev slots x)) ++ resL toks caps)) with
        | some r' =>
          have hr : r' = r := by rw [hM, alt_some] at h; exact Option.some.inj h
          subst hr
          cases hMM : C.M g (args.toList.map (fun x => res toks (ev slots x)) ++ resL toks caps) with
          | none => rw [hMM] at hM; simp [mutCall] at hM
          | some q =>
            obtain ⟨pos, rr, row'⟩ := q
            have hM0 := hM
            rw [hMM] at hM
            simp only [mutCall] at hM
            split at hM
            · rename_i t p lo n nl' sz' es' hav
              have htR := hargR pos _ hav t (by simp [refs])
              split at hM
              · rename_i tk htk'
                split at hM
                · rename_i nl sz es hg
                  split at hM
                  · rename_i hc
                    simp only [Option.some.injEq] at hM
                    obtain ⟨m, g1, g2, g3⟩ := intern_loc rr (toks.set t ⟨true, setAt tk.row p (.sl nl sz es')⟩)
                    subst hM
                    refine ⟨[(false, t)], [(t, ⟨true, setAt tk.row p (.sl nl sz es')⟩)], m, by simp only [kls]; rfl, by simp only [sets]; exact g1, by simpa using htR, by simpa using htR, fun _ hno _ => by rw [hno] at hMM; simp at hMM, fun t' ht' => .inr (by simpa using g2 t' ht'), fun s k hs hl hk => ?_⟩
                    simp only [aop, hs f hfm, hf, eA s k hs hk, eB s hs, hz, hMM, mutCall, hav, hk t htR, htk', hg, if_pos hc, alt_some, kls, sets]
                    rw [g3 (k.set t _) (by simp [hl])]
                    rfl
                  · simp at hM
                · simp at hM
              · simp at hM
            · rename_i sz sz' hav
              split at hM
              · rename_i hsz
                simp only [Option.some.injEq] at hM
                obtain ⟨m, g1, g2, g3⟩ := intern_loc rr toks
                subst hM
                refine loc_new (m := m) ⟨rfl, g1⟩ (fun t ht => .inr (g2 t ht)) fun s k hs hl hk => ?_
                simp only [aop, hs f hfm, hf, eA s k hs hk, eB s hs, hz, hMM, mutCall, hav, if_pos hsz, alt_some, g3 k hl]
              · simp at hM
            · simp at hM
        | none =>
          rw [hM, alt_none] at h
          have hM' : ∀ s (k : List Tok), (∀ t ∈ opR slots (.call { callee := .value f, args := args, argTypes := ts }), k[t]? = toks[t]?) → mutCall s k (args.toList.map (ev slots)) caps (C.M g (args.toList.map (fun x => res toks (ev slots x)) ++ resL toks caps)) = none := by
            intro s k hk
            cases hMM : C.M g (args.toList.map (fun x => res toks (ev slots x)) ++ resL toks caps) with
            | none => rfl
            | some q0 =>
              obtain ⟨pos, rr0, row'⟩ := q0
              rw [hMM] at hM
              simp only [mutCall] at hM ⊢
              split
              · rename_i t p lo n nl' sz' es' hav
                have htR := hargR pos _ hav t (by simp [refs])
                simp only [hav] at hM
                rw [hk t htR]
                split
                · rename_i tk htk'
                  simp only [htk'] at hM
                  split
                  · rename_i nl sz es hg
                    simp only [hg] at hM
                    split
                    · rename_i hc0
                      rw [if_pos hc0] at hM; simp at hM
                    · rfl
                  · rfl
                · rfl
              · rename_i sz sz' hav
                simp only [hav] at hM
                split
                · rename_i hsz; rw [if_pos hsz] at hM; simp at hM
                · rfl
              · rfl
          have hmvR : ∀ (mv : List Nat), ∀ t ∈ refsL (mv.map fun i => (args.toList.map (ev slots)).getD i .junk), t ∈ opR slots (.call { callee := .value f, args := args, argTypes := ts }) := by
            intro mv t ht
            have : ∀ (l : List Nat), t ∈ refsL (l.map fun i => (args.toList.map (ev slots)).getD i .junk) → ∃ (i : Nat) (x : AV), (args.toList.map (ev slots))[i]? = some x ∧ t ∈ refs x := by
              intro l
              induction l with
              | nil => intro h; simp [refsL] at h
              | cons i l ih =>
                intro h
                simp only [List.map_cons, refsL, List.mem_append] at h
                rcases h with h | h
                · rw [List.getD_eq_getElem?_getD] at h
                  cases hi : (args.toList.map (ev slots))[i]? with
                  | none => rw [hi] at h; simp [refs] at h
                  | some x => rw [hi] at h; exact ⟨i, x, hi, h⟩
                · exact ih h
            obtain ⟨i, x, hi, hx⟩ := this mv ht
            exact hargR i x hi t hx
          cases hVV : movCall slots toks (args.toList.map (ev slots)) caps (C.V g (args.toList.map (fun x => res toks (ev slots x)) ++ resL toks caps)) with
          | some r' =>
            have hr : r' = r := by rw [hVV, alt_some] at h; exact Option.some.inj h
            subst hr
            rw [hVV, alt_some] at h
            clear h
            have h := hVV
            cases hV : C.V g (args.toList.map (fun x => res toks (ev slots x)) ++ resL toks caps) with
            | none => rw [hV] at h; simp [movCall] at h
            | some q =>
              obtain ⟨mv, rr⟩ := q
              rw [hV] at h
              simp only [movCall] at h
              split at h
              · rename_i q hq
                split at h
                · rename_i hc
                  simp only [Option.some.injEq] at h
                  have hqr : ∀ t ∈ q.2, t ∈ opR slots (.call { callee := .value f, args := args, argTypes := ts }) := fun t ht => hmvR mv t (ownRL_refs _ q hq t ht)
                  rw [drops_eq] at h
                  obtain ⟨m, g1, g2, g3⟩ := intern_loc rr (sets (q.2.map fun t => (t, ⟨true, .junk⟩)) toks)
                  subst h
                  refine ⟨q.2.map fun t => (true, t), q.2.map fun t => (t, ⟨true, .junk⟩), m, rfl, g1, fun k hk => ?_, fun k hk => ?_, fun _ _ hno => by rw [hno] at hV; simp at hV, fun t ht => .inr (by simpa [sets_len] using g2 t ht), fun s k hs hl hk => ?_⟩
                  · obtain ⟨t, ht, rfl⟩ := List.mem_map.1 hk; exact hqr t ht
                  · obtain ⟨t, ht, rfl⟩ := List.mem_map.1 hk; exact hqr t ht
                  · simp only [aop, hs f hfm, hf, eA s k hs hk, eB s hs, hz, hV, hM' s k hk, alt_none, movCall]
                    rw [ownRL_congr _ (fun t ht => hk t (hmvR mv t ht)), hq]
                    simp only [if_pos hc, drops_eq, alt_some]
                    rw [g3 (sets _ k) (by simp [sets_len, hl])]
                · simp at h
              · simp at h
          | none =>
            rw [hVV, alt_none] at h
            cases hH : C.H g (args.toList.map (fun x => res toks (ev slots x)) ++ resL toks caps) with
            | none => rw [hH] at h; simp [frzCall] at h
            | some q =>
              obtain ⟨sh, rr⟩ := q
              have hV' : ∀ s (k : List Tok), (∀ t ∈ opR slots (.call { callee := .value f, args := args, argTypes := ts }), k[t]? = toks[t]?) → movCall s k (args.toList.map (ev slots)) caps (C.V g (args.toList.map (fun x => res toks (ev slots x)) ++ resL toks caps)) = none := by
                intro s k hk
                cases hV : C.V g (args.toList.map (fun x => res toks (ev slots x)) ++ resL toks caps) with
                | none => rfl
                | some q =>
                  obtain ⟨mv, rr⟩ := q
                  rw [hV] at hVV
                  simp only [movCall] at hVV ⊢
                  rw [ownRL_congr _ (fun t ht => hk t (hmvR mv t ht))]
                  split
                  · rename_i q hq
                    simp only [hq] at hVV
                    split
                    · rename_i hc; rw [if_pos hc] at hVV; simp at hVV
                    · rfl
                  · rfl
              rw [hH] at h
              simp only [frzCall] at h
              split at h
              · rename_i hc
                simp only [Option.some.injEq] at h; subst h
                refine loc_pure h0 ⟨rfl, rfl⟩ (fun t ht => ?_) fun s k hs hk => ?_
                · simp only [hc.2] at ht; simp at ht
                · simp only [aop, hs f hfm, hf, eA s k hs hk, eB s hs, hz, hM' s k hk, hM, hV' s k hk, hVV, hH, alt_none, frzCall, if_pos hc]; rfl
              · simp at h
    | _ => simp [aop] at h
  | _ => simp [aop] at h

end
end Go.Proofs.YtkfgmpmeipilnaaDoor.Ax

/-
  A region whose order is open: whatever order its edges allow comes to what the order of the text comes to. No condition.
-/
namespace Go.Proofs.YtkfgmpmeipilnaaDoor.Ax
open Go Go.RowKit

mutual
theorem ren_refs {f : Nat → Nat} : ∀ (x : AV), ∀ t ∈ refs (ren f x), ∃ t0 ∈ refs x, t = f t0
  | .v _, t, ht => by simp [ren, refs] at ht
  | .agg cs, t, ht => by simpa [ren, refs] using renL_refs cs t (by simpa [ren, refs] using ht)
  | .tup cs, t, ht => by simpa [ren, refs] using renL_refs cs t (by simpa [ren, refs] using ht)
  | .sl _ _ _, t, ht => by simp [ren, refs] at ht
  | .fp _ _, t, ht => by simp [ren, refs] at ht
  | .fn _ cs, t, ht => by simpa [ren, refs] using renL_refs cs t (by simpa [ren, refs] using ht)
  | .ref t' _ _ _, t, ht => by simp [ren, refs] at ht; exact ⟨t', by simp [refs], ht⟩
  | .ptr t' _ _ _, t, ht => by simp [ren, refs] at ht; exact ⟨t', by simp [refs], ht⟩
  | .junk, t, ht => by simp [ren, refs] at ht
theorem renL_refs {f : Nat → Nat} : ∀ (cs : List AV), ∀ t ∈ refsL (renL f cs), ∃ t0 ∈ refsL cs, t = f t0
  | [], t, ht => by simp [renL, refsL] at ht
  | c :: cs, t, ht => by
    simp only [renL, refsL, List.mem_append] at ht ⊢
    rcases ht with ht | ht
    · obtain ⟨t0, h1, h2⟩ := ren_refs c t ht; exact ⟨t0, .inl h1, h2⟩
    · obtain ⟨t0, h1, h2⟩ := renL_refs cs t ht; exact ⟨t0, .inr h1, h2⟩
end
mutual
theorem ren_id {f : Nat → Nat} : ∀ (x : AV), (∀ t ∈ refs x, f t = t) → ren f x = x
  | .v _, _ => rfl
  | .agg cs, h => by simp only [ren]; rw [renL_id cs (by simpa [refs] using h)]
  | .tup cs, h => by simp only [ren]; rw [renL_id cs (by simpa [refs] using h)]
  | .sl _ _ _, _ => rfl
  | .fp _ _, _ => rfl
  | .fn _ cs, h => by simp only [ren]; rw [renL_id cs (by simpa [refs] using h)]
  | .ref t _ _ _, h => by simp only [ren]; rw [h t (by simp [refs])]
  | .ptr t _ _ _, h => by simp only [ren]; rw [h t (by simp [refs])]
  | .junk, _ => rfl
theorem renL_id {f : Nat → Nat} : ∀ (cs : List AV), (∀ t ∈ refsL cs, f t = t) → renL f cs = cs
  | [], _ => rfl
  | c :: cs, h => by simp only [renL]; rw [ren_id c fun t ht => h t (by simp [refsL, ht]), renL_id cs fun t ht => h t (by simp [refsL, ht])]
end

def shf (L off t : Nat) : Nat := if L ≤ t then off + (t - L) else t
def nums : Nat → List Tok → List (Nat × Tok)
  | _, [] => []
  | o, t :: m => (o, t) :: nums (o + 1) m
theorem nums_mem : ∀ {o : Nat} {m : List Tok} {k : Nat × Tok}, k ∈ nums o m → o ≤ k.1 ∧ k.1 < o + m.length
  | _, [], _, h => by simp [nums] at h
  | o, t :: m, k, h => by
    simp only [nums, List.mem_cons] at h
    rcases h with rfl | h
    · simp
    · have := nums_mem h; simp; omega
theorem nums_get : ∀ {o : Nat} {m : List Tok} {s : List Tok} {j : Nat}, j < m.length → o + m.length ≤ s.length → (sets (nums o m) s)[o + j]? = m[j]?
  | _, [], _, _, h, _ => by simp at h
  | o, t :: m, s, 0, _, hl => by
    simp only [nums, sets]
    rw [sets_get (fun k hk => by have := nums_mem hk; simp at this ⊢; omega)]
    simp at hl ⊢
    rw [List.getElem?_set_self (by omega)]
  | o, t :: m, s, j + 1, h, hl => by
    simp only [nums, sets]
    have := nums_get (o := o + 1) (m := m) (s := s.set o t) (j := j) (by simpa using h) (by simp at hl ⊢; omega)
    rw [show o + (j + 1) = o + 1 + j by omega, this]; simp

/-- The new rows are numbered by the operation. -/
def outDr (L off c : Nat) (d : Option Nat) : Option Out → Option ASt
  | some r => (match c with
    | 0 => if r.toks.length = L then some ⟨putD r.slots d r.val, r.toks⟩ else none
    | c + 1 => if (r.toks.drop L).length ≤ c + 1 then some ⟨putD r.slots d (ren (shf L off) r.val), sets (nums off (r.toks.drop L)) (r.toks.take L)⟩ else none)
  | none => none

def rstepD (C : Ctx) (ops : List Oper) (L off c : Nat) (o : Oper) (st : ASt) : Option ASt :=
  match guardOk ops st.slots o with
  | some g => if g then outDr L off c o.dst (aop C o.op st.slots st.toks) else some ⟨putD st.slots o.dst (.tup []), st.toks⟩
  | none => none

/-- The rows that a step's operands lead to; nothing, if an operand is not wholly known. -/
def stR (slots : List AV) (op : Op) : Option Bool → Option (List Nat)
  | some true => if jkL (op.operands.toList.map (ev slots)) then none else some (opR slots op)
  | some false => some []
  | none => none

def needs (i : Nat) : List (Nat × Nat) → Bool
  | [] => false
  | (x, y) :: l => x == i || y == i || needs i l

def chk (tr : List (Option (List Nat))) (i : Nat) (R : Option (List Nat)) : List (Nat × Nat) → Bool
  | [] => true
  | (x, j) :: l => (if j = i then (match tr.getD x none, R with
    | some a, some b => !meets a b
    | _, _ => false) else true) && chk tr i R l

def rrunD (C : Ctx) (ops : List Oper) (d : RD) (L : Nat) : List Oper → Nat → Nat → List Nat → List (Option (List Nat)) → ASt → Option ASt
  | [], _, _, _, _, st => some st
  | o :: l, i, off, cs, tr, st => match rstepD (if d.wr.contains i then C else noM C) ops L off (cs.headD 0) o st with
    | some st' => if needs i d.prs then (if chk tr i (stR st.slots o.op (guardOk ops st.slots o)) d.prs then rrunD C ops d L l (i + 1) (off + cs.headD 0) cs.tail (tr ++ [stR st.slots o.op (guardOk ops st.slots o)]) st' else none)
        else rrunD C ops d L l (i + 1) (off + cs.headD 0) cs.tail (tr ++ [none]) st'
    | none => none

def rdraw (C : Ctx) (ops : List Oper) (d : RD) (st : ASt) : Option ASt :=
  rrunD C ops d (st.toks.length + d.cs.sum) ops 0 st.toks.length d.cs [] ⟨st.slots, st.toks ++ List.replicate d.cs.sum ⟨true, .junk⟩⟩

theorem getD_putD {slots : List AV} {d i : Nat} {x : AV} (h : i ≠ d) : (putD slots (some d) x).getD i .junk = slots.getD i .junk := by
  simp [putD, List.getD_eq_getElem?_getD, List.getElem?_set_ne (Ne.symm h)]

theorem ev_putD {slots : List AV} {dst : Option Nat} {x : AV} {y : Operand} (h : ∀ d, dst = some d → y ≠ .tmp d) : ev (putD slots dst x) y = ev slots y := by
  cases dst with
  | none => rfl
  | some d =>
    cases y with
    | tmp t => exact getD_putD fun e => h d rfl (by rw [e])
    | _ => rfl

theorem putD_comm {slots : List AV} {d d' : Option Nat} (x x' : AV) (h : ∀ e, d = some e → d' ≠ some e) : putD (putD slots d x) d' x' = putD (putD slots d' x') d x := by
  cases d with
  | none => rfl
  | some e =>
    cases d' with
    | none => rfl
    | some e' => exact List.set_comm _ _ fun h' => h e rfl (by rw [h'])

theorem mem_looks {ops : Array Oper} {o : Oper} {t : Nat} (h : Operand.tmp t ∈ o.op.operands.toList) : t ∈ o.looksAt ops := by
  unfold Oper.looksAt
  exact List.mem_append_left _ (List.mem_filterMap.2 ⟨_, h, rfl⟩)


theorem getD_putD_ne {slots : List AV} {dst : Option Nat} {x : AV} {i : Nat} (h : dst ≠ some i) : (putD slots dst x).getD i .junk = slots.getD i .junk := by
  cases dst with
  | none => rfl
  | some d => exact getD_putD fun e => h (by rw [e])

theorem kl_junk {k : Bool × Nat} : kl k .junk = .junk := by unfold kl; split <;> rfl
theorem kls_getD : ∀ {ks : List (Bool × Nat)} {s : List AV} {i : Nat}, (kls ks s).getD i .junk = ks.foldl (fun x k => kl k x) (s.getD i .junk)
  | [], _, _ => rfl
  | k :: ks, s, i => by
    simp only [kls, List.foldl_cons]
    rw [kls_getD]
    congr 1
    rw [List.getD_eq_getElem?_getD, List.getElem?_map, List.getD_eq_getElem?_getD]
    cases s[i]? with
    | none => simp [kl_junk]
    | some x => rfl
def klf (ks : List (Bool × Nat)) (x : AV) : AV := ks.foldl (fun x k => kl k x) x
theorem klf_id {ks : List (Bool × Nat)} : ∀ {x : AV}, (∀ k ∈ ks, k.2 ∉ refs x) → klf ks x = x := by
  induction ks with
  | nil => intro x _; rfl
  | cons k ks ih =>
    intro x h
    simp only [klf, List.foldl_cons]
    rw [kl_id k x (h k (by simp))]
    exact ih fun k' hk => h k' (by simp [hk])
theorem klf_refs {ks : List (Bool × Nat)} : ∀ {x : AV}, ∀ t ∈ refs (klf ks x), t ∈ refs x := by
  induction ks with
  | nil => intro x t h; exact h
  | cons k ks ih =>
    intro x t h
    simp only [klf, List.foldl_cons] at h
    exact kl_refs k x t (ih t h)
theorem ev_kls {ks : List (Bool × Nat)} {s : List AV} (y : Operand) : ev (kls ks s) y = klf ks (ev s y) := by
  cases y with
  | tmp t => exact kls_getD
  | const c =>
    show ofV c = klf ks (ofV c)
    exact (klf_id (by rw [ofV_refs]; simp)).symm
  | func f =>
    show AV.fn f [] = klf ks (AV.fn f [])
    exact (klf_id (by simp [refs, refsL])).symm
  | global g =>
    show AV.junk = klf ks AV.junk
    exact (klf_id (by simp [refs])).symm
theorem kls_putD {d : Option Nat} {v : AV} : ∀ {ks : List (Bool × Nat)} {s : List AV}, kls ks (putD s d v) = putD (kls ks s) d (klf ks v)
  | [], _ => rfl
  | k :: ks, s => by
    simp only [kls]
    have : (putD s d v).map (kl k) = putD (s.map (kl k)) d (kl k v) := by
      cases d with
      | none => rfl
      | some d => simp [putD, List.map_set]
    rw [this, kls_putD]; rfl
theorem kls_map_comm {k : Bool × Nat} : ∀ {ks : List (Bool × Nat)} {s : List AV}, kls ks (s.map (kl k)) = (kls ks s).map (kl k)
  | [], _ => rfl
  | k' :: ks, s => by
    simp only [kls]
    rw [show (s.map (kl k)).map (kl k') = (s.map (kl k')).map (kl k) from by simp only [List.map_map]; exact List.map_congr_left fun x _ => kl_comm k' k x, kls_map_comm]
theorem kls_comm : ∀ {a b : List (Bool × Nat)} {s : List AV}, kls a (kls b s) = kls b (kls a s)
  | [], _, _ => rfl
  | k :: a, b, s => by simp only [kls]; rw [← kls_map_comm, kls_comm]
theorem set_sets {k : Nat × Tok} : ∀ {b : List (Nat × Tok)} {s : List Tok}, (∀ x ∈ b, x.1 ≠ k.1) → sets b (s.set k.1 k.2) = (sets b s).set k.1 k.2
  | [], _, _ => rfl
  | x :: b, s, h => by
    simp only [sets]
    rw [List.set_comm _ _ (fun e => h x (by simp) e.symm), set_sets fun y hy => h y (by simp [hy])]
theorem sets_comm : ∀ {a b : List (Nat × Tok)} {s : List Tok}, (∀ x ∈ a, ∀ y ∈ b, x.1 ≠ y.1) → sets a (sets b s) = sets b (sets a s)
  | [], _, _, _ => rfl
  | k :: a, b, s, h => by
    simp only [sets]
    rw [← set_sets fun x hx e => h k (by simp) x hx e.symm, sets_comm fun x hx => h x (by simp [hx])]

theorem kl_bool {k : Bool × Nat} {x : AV} {b : Bool} : kl k x = .v (.bool b) ↔ x = .v (.bool b) := by
  unfold kl
  cases x <;> split <;> simp only [kill, killN] <;> first | rfl | (split <;> simp) | simp
theorem kl_tup {k : Bool × Nat} {x : AV} : (∃ vs, kl k x = .tup vs) ↔ ∃ vs, x = .tup vs := by
  unfold kl
  cases x <;> split <;> simp only [kill, killN] <;> first | rfl | (split <;> simp) | simp
/-- What a guard holds. -/
def gv : AV → Option (Option Bool)
  | .v (.bool b) => some (some b)
  | .tup _ => some none
  | _ => none
theorem gv_kl {k : Bool × Nat} {x : AV} : gv (kl k x) = gv x := by
  have h1 := fun b => kl_bool (k := k) (x := x) (b := b)
  have h2 := kl_tup (k := k) (x := x)
  generalize kl k x = y at *
  unfold gv
  split
  · rename_i b; rw [(h1 b).1 rfl]
  · rename_i vs; obtain ⟨vs', rfl⟩ := h2.1 ⟨vs, rfl⟩; rfl
  · rename_i hn1 hn2
    split
    · rename_i b; exact (hn1 b ((h1 b).2 rfl)).elim
    · rename_i vs; obtain ⟨vs', h⟩ := h2.2 ⟨vs, rfl⟩; exact (hn2 vs' h).elim
    · rfl
theorem gv_klf {ks : List (Bool × Nat)} : ∀ {x : AV}, gv (klf ks x) = gv x := by
  induction ks with
  | nil => intro x; rfl
  | cons k ks ih => intro x; simp only [klf, List.foldl_cons]; exact ih.trans gv_kl

theorem guardOk_gv {ops : List Oper} {slots slots' : List AV} {o : Oper} (h : ∀ j want o' d, o.guard = some (j, want) → ops[j]? = some o' → o'.dst = some d → gv (slots'.getD d .junk) = gv (slots.getD d .junk)) : guardOk ops slots' o = guardOk ops slots o := by
  have key : ∀ (x : AV) (want : Bool), (match x with | .v (.bool b) => some (b == want) | .tup _ => some false | _ => none) = (match gv x with | some (some b) => some (b == want) | some none => some false | none => none) := fun x want => by
    unfold gv; split <;> first | rfl | (split <;> simp_all)
  unfold guardOk
  split
  · rfl
  · rename_i j want hg
    split
    · rename_i o' ho'
      split
      · rename_i d hd
        exact (key (slots'.getD d .junk) want).trans ((congrArg (fun z : Option (Option Bool) => match z with | some (some b) => some (b == want) | some none => some false | none => none) (h j want o' d hg ho' hd)).trans (key (slots.getD d .junk) want).symm)
      · rfl
    · rfl

/-- An operation of the region that may turn a row. -/
def wrt (d : RD) (i : Nat) (o : Oper) : Bool := wrs o.op || d.wr.contains i

section
variable {C : Ctx} {ops : Array Oper} {d : RD} {base L : Nat} {Rs : Nat → Option (List Nat)}

def offI (base : Nat) (d : RD) (i : Nat) : Nat := base + (d.cs.take i).sum
def ownN (base : Nat) (d : RD) (i t : Nat) : Prop := offI base d i ≤ t ∧ t < offI base d i + d.cs.getD i 0

theorem sum_take : ∀ (cs : List Nat) (i : Nat), (cs.take (i + 1)).sum = (cs.take i).sum + cs.getD i 0
  | [], i => by simp
  | c :: cs, 0 => by simp
  | c :: cs, i + 1 => by
    simp only [List.take_succ_cons, List.sum_cons, List.getD_cons_succ]
    rw [sum_take cs i]; omega
theorem sum_take_le : ∀ (cs : List Nat) {i j : Nat}, i ≤ j → (cs.take i).sum ≤ (cs.take j).sum := by
  intro cs i j h
  induction j with
  | zero => have : i = 0 := by omega
            subst this; exact Nat.le_refl _
  | succ j ih =>
    by_cases e : i = j + 1
    · subst e; exact Nat.le_refl _
    · have := ih (by omega); rw [sum_take]; omega
theorem sum_take_all (cs : List Nat) (i : Nat) : (cs.take i).sum ≤ cs.sum := by
  induction cs generalizing i with
  | nil => simp
  | cons c cs ih =>
    cases i with
    | zero => simp
    | succ i => simp only [List.take_succ_cons, List.sum_cons]; have := ih i; omega
theorem own_disj {i j t : Nat} (h : i ≠ j) (hi : ownN base d i t) (hj : ownN base d j t) : False := by
  unfold ownN offI at hi hj
  have h1 := sum_take d.cs i
  have h2 := sum_take d.cs j
  rcases Nat.lt_or_gt_of_ne h with h | h
  · have := sum_take_le d.cs (show i + 1 ≤ j by omega); omega
  · have := sum_take_le d.cs (show j + 1 ≤ i by omega); omega
theorem own_lt {i t : Nat} (hL : L = base + d.cs.sum) (h : ownN base d i t) : base ≤ t ∧ t < L := by
  unfold ownN offI at h
  have h1 := sum_take d.cs i
  have := sum_take_all d.cs (i + 1)
  omega

/-- One step, in whatever order. -/
def stepI (C : Ctx) (ops : Array Oper) (d : RD) (base L : Nat) (Rs : Nat → Option (List Nat)) (i : Nat) (st st' : ASt) : Prop :=
  ∃ o, ops[i]? = some o ∧ rstepD (if d.wr.contains i then C else noM C) ops.toList L (offI base d i) (d.cs.getD i 0) o st = some st' ∧ (needs i d.prs = true → stR st.slots o.op (guardOk ops.toList st.slots o) = Rs i)

def runI (C : Ctx) (ops : Array Oper) (d : RD) (base L : Nat) (Rs : Nat → Option (List Nat)) : List Nat → ASt → ASt → Prop
  | [], st, fin => st = fin
  | i :: l, st, fin => ∃ st', stepI C ops d base L Rs i st st' ∧ runI C ops d base L Rs l st' fin

structure Fine (L : Nat) (st : ASt) : Prop where
  len : st.toks.length = L
  ok : ∀ y, okA (ev st.slots y)
  pure : ∀ (t : Nat) (tk : Tok), st.toks[t]? = some tk → pureA tk.row
  rng : ∀ y, ∀ t ∈ refs (ev st.slots y), t < L

/-- What a step does. -/
theorem stepI_eff {i : Nat} {st st' : ASt} (hL : L = base + d.cs.sum) (hf : Fine L st) (h : stepI C ops d base L Rs i st st') : ∃ (o : Oper) (g : Bool) (v : AV) (ks : List (Bool × Nat)) (ss : List (Nat × Tok)),
    ops[i]? = some o ∧ guardOk ops.toList st.slots o = some g ∧ st' = ⟨putD (kls ks st.slots) o.dst v, sets ss st.toks⟩ ∧ (∀ k ∈ ks, g = true ∧ k.2 ∈ opR st.slots o.op) ∧ (∀ s ∈ ss, (g = true ∧ s.1 ∈ opR st.slots o.op) ∨ ownN base d i s.1) ∧
    (wrt d i o = false → ks = [] ∧ ∀ s ∈ ss, ownN base d i s.1) ∧ (∀ t ∈ refs v, (g = true ∧ t ∈ opR st.slots o.op) ∨ ownN base d i t) ∧ (needs i d.prs = true → stR st.slots o.op (some g) = Rs i) ∧
    ∀ slots' (toks' : List Tok), (g = true → ∀ y ∈ o.op.operands.toList, ev slots' y = ev st.slots y) → guardOk ops.toList slots' o = some g → toks'.length = L → (g = true → ∀ t ∈ opR st.slots o.op, toks'[t]? = st.toks[t]?) →
      stepI C ops d base L Rs i ⟨slots', toks'⟩ ⟨putD (kls ks slots') o.dst v, sets ss toks'⟩ := by
  obtain ⟨o, ho, hst, hR⟩ := h
  unfold rstepD at hst
  split at hst
  rotate_left
  · simp at hst
  rename_i g hg
  rw [hg] at hR
  cases g with
  | false =>
    simp only [Bool.false_eq_true, if_false, Option.some.injEq] at hst
    subst hst
    refine ⟨o, false, .tup [], [], [], ho, hg, by simp [kls, sets], by simp, by simp, fun _ => ⟨rfl, by simp⟩, by simp [refs, refsL], hR, fun slots' toks' _ h2 h3 _ => ⟨o, ho, ?_, fun hn => ?_⟩⟩
    · unfold rstepD
      simp only [h2]; simp [kls, sets]
    · rw [h2]; exact hR hn
  | true =>
    simp only [if_true] at hst
    cases hr : aop (if d.wr.contains i then C else noM C) o.op st.slots st.toks with
    | none => rw [hr] at hst; simp [outDr] at hst
    | some r =>
      rw [hr] at hst
      obtain ⟨ks, ss, m, e1, e2, e3, e4, e5, e6, e7⟩ := aop_loc (fun y _ => hf.ok y) hf.pure hr
      have hrl : (sets ss st.toks).length = L := by rw [sets_len]; exact hf.len
      have hRl : ∀ t ∈ opR st.slots o.op, t < L := by
        intro t ht
        have : ∀ l : List Operand, t ∈ refsL (l.map (ev st.slots)) → t < L := by
          intro l
          induction l with
          | nil => intro h; simp [refsL] at h
          | cons y l ih =>
            intro h
            simp only [List.map_cons, refsL, List.mem_append] at h
            exact h.elim (hf.rng y t) ih
        exact this _ ht
      have hwr : wrt d i o = false → ks = [] ∧ ss = [] := fun hw => by
        simp only [wrt, Bool.or_eq_false_iff] at hw
        exact e5 hw.1 (fun f a => by rw [hw.2]; rfl) (fun f a => by rw [hw.2]; rfl)
      have hRs : ∀ slots' : List AV, (∀ y ∈ o.op.operands.toList, ev slots' y = ev st.slots y) → stR slots' o.op (some true) = stR st.slots o.op (some true) := fun slots' hs => by
        have : o.op.operands.toList.map (ev slots') = o.op.operands.toList.map (ev st.slots) := List.map_congr_left hs
        simp only [stR, opR, this]
      cases hc : d.cs.getD i 0 with
      | zero =>
        rw [hc] at hst
        simp only [outDr] at hst
        split at hst
        · rename_i hlen
          simp only [Option.some.injEq] at hst
          subst hst
          have hm : m = [] := List.length_eq_zero_iff.1 (by rw [e2] at hlen; simp at hlen; omega)
          subst hm
          simp only [List.append_nil] at e2 e7
          refine ⟨o, true, r.val, ks, ss, ho, hg, by rw [e1, e2], fun k hk => ⟨rfl, e3 k hk⟩, fun s hs => .inl ⟨rfl, e4 s hs⟩, fun hw => ⟨(hwr hw).1, by rw [(hwr hw).2]; simp⟩, fun t ht => .inl ⟨rfl, (e6 t ht).resolve_right (by simp)⟩, hR, fun slots' toks' h1 h2 h3 h4 => ⟨o, ho, ?_, fun hn => ?_⟩⟩
          · unfold rstepD
            simp only [h2, if_true]
            rw [e7 slots' toks' (h1 rfl) (by rw [h3, hf.len]) (h4 rfl), hc]
            simp [outDr, sets_len, h3]
          · rw [h2]; exact (hRs slots' (h1 rfl)).trans (hR hn)
        · simp at hst
      | succ c =>
        rw [hc] at hst
        simp only [outDr] at hst
        split at hst
        · rename_i hlen
          simp only [Option.some.injEq] at hst
          subst hst
          have hd1 : r.toks.drop L = m := by rw [e2, List.drop_append_of_le_length (by omega), List.drop_of_length_le (by omega), List.nil_append]
          have hd2 : r.toks.take L = sets ss st.toks := by rw [e2, List.take_append_of_le_length (by omega), List.take_of_length_le (by omega)]
          rw [hd1] at hlen
          have hown : ∀ t, offI base d i ≤ t → t < offI base d i + m.length → ownN base d i t := fun t h1 h2 => ⟨h1, by rw [hc]; omega⟩
          refine ⟨o, true, ren (shf L (offI base d i)) r.val, ks, ss ++ nums (offI base d i) m, ho, hg, by rw [e1, hd1, hd2, sets_app], fun k hk => ⟨rfl, e3 k hk⟩, fun s hs => ?_, fun hw => ⟨(hwr hw).1, fun s hs => ?_⟩, fun t ht => ?_, hR, fun slots' toks' h1 h2 h3 h4 => ⟨o, ho, ?_, fun hn => ?_⟩⟩
          · rcases List.mem_append.1 hs with hs | hs
            · exact .inl ⟨rfl, e4 s hs⟩
            · have := nums_mem hs; exact .inr (hown _ this.1 this.2)
          · rw [(hwr hw).2, List.nil_append] at hs
            have := nums_mem hs; exact hown _ this.1 this.2
          · obtain ⟨t0, h0, rfl⟩ := ren_refs _ t ht
            rcases e6 t0 h0 with h | h
            · left
              refine ⟨rfl, ?_⟩
              unfold shf; rw [if_neg (by have := hRl t0 h; omega)]; exact h
            · right
              rw [hf.len] at h
              unfold shf; rw [if_pos h.1]
              exact hown _ (by omega) (by omega)
          · unfold rstepD
            simp only [h2, if_true]
            rw [e7 slots' toks' (h1 rfl) (by rw [h3, hf.len]) (h4 rfl), hc]
            have k1 : (sets ss toks' ++ m).drop L = m := by rw [List.drop_append_of_le_length (by rw [sets_len]; omega), List.drop_of_length_le (by rw [sets_len]; omega), List.nil_append]
            have k2 : (sets ss toks' ++ m).take L = sets ss toks' := by rw [List.take_append_of_le_length (by rw [sets_len]; omega), List.take_of_length_le (by rw [sets_len]; omega)]
            simp only [outDr, k1, k2, if_pos hlen, sets_app]
          · rw [h2]; exact (hRs slots' (h1 rfl)).trans (hR hn)
        · simp at hst

/-- Which rows the slots lead to: those that were there, and those of the steps that are done. -/
def Inv (base : Nat) (d : RD) (D : Nat → Prop) (st : ASt) : Prop := ∀ y, ∀ t ∈ refs (ev st.slots y), t < base ∨ ∃ j, D j ∧ ownN base d j t

theorem opR_ev {slots : List AV} {op : Op} {t : Nat} (h : t ∈ opR slots op) : ∃ y ∈ op.operands.toList, t ∈ refs (ev slots y) := by
  have : ∀ l : List Operand, t ∈ refsL (l.map (ev slots)) → ∃ y ∈ l, t ∈ refs (ev slots y) := by
    intro l
    induction l with
    | nil => intro h; simp [refsL] at h
    | cons y l ih =>
      intro h
      simp only [List.map_cons, refsL, List.mem_append] at h
      rcases h with h | h
      · exact ⟨y, by simp, h⟩
      · obtain ⟨z, hz, h⟩ := ih h; exact ⟨z, by simp [hz], h⟩
  exact this _ h

theorem stepI_inv {i : Nat} {st st' : ASt} {D : Nat → Prop} (hL : L = base + d.cs.sum) (hf : Fine L st) (hI : Inv base d D st) (h : stepI C ops d base L Rs i st st') : Inv base d (fun j => D j ∨ j = i) st' := by
  obtain ⟨o, g, v, ks, ss, _, _, rfl, _, _, _, e6, _, _⟩ := stepI_eff hL hf h
  have hold : ∀ y, ∀ t ∈ refs (ev (kls ks st.slots) y), t < base ∨ ∃ j, (D j ∨ j = i) ∧ ownN base d j t := fun y t ht => by
    rw [ev_kls] at ht
    rcases hI y t (klf_refs t ht) with h | ⟨j, h1, h2⟩
    · exact .inl h
    · exact .inr ⟨j, .inl h1, h2⟩
  have hv : ∀ t ∈ refs v, t < base ∨ ∃ j, (D j ∨ j = i) ∧ ownN base d j t := fun t ht => by
    rcases e6 t ht with ⟨_, h⟩ | h
    · obtain ⟨y, _, hy⟩ := opR_ev h
      rcases hI y t hy with h | ⟨j, h1, h2⟩
      · exact .inl h
      · exact .inr ⟨j, .inl h1, h2⟩
    · exact .inr ⟨i, .inr rfl, h⟩
  intro y t ht
  cases hd : o.dst with
  | none => rw [hd] at ht; exact hold y t ht
  | some d0 =>
    rw [hd] at ht
    cases y with
    | tmp t' =>
      simp only [ev, putD] at ht
      by_cases e : t' = d0
      · subst e
        rw [List.getD_eq_getElem?_getD] at ht
        by_cases hlt : t' < (kls ks st.slots).length
        · rw [List.getElem?_set_self hlt] at ht; exact hv t ht
        · rw [List.getElem?_eq_none (by simpa using hlt)] at ht; simp [refs] at ht
      · have := getD_putD (slots := kls ks st.slots) (x := v) e
        simp only [putD] at this
        rw [this] at ht
        exact hold (.tmp t') t ht
    | const c => exact hold (.const c) t ht
    | func f => exact hold (.func f) t ht
    | global g => exact hold (.global g) t ht

/-- Operations that only hand a value on: they commute with all that does not look at what they write. -/
def mvO (o : Oper) : Bool := match o.op with
  | .move _ => true
  | .assign _ => true
  | _ => false

theorem move_step {i : Nat} {o : Oper} {y : Operand} {st : ASt} {g : Bool} (ho : ops[i]? = some o) (hop : o.op = .move y ∨ o.op = .assign y) (hn : needs i d.prs = false) (hl : st.toks.length = L) (hr : ∀ t ∈ refs (ev st.slots y), t < L)
    (hg : guardOk ops.toList st.slots o = some g) : stepI C ops d base L Rs i st ⟨putD st.slots o.dst (if g then ev st.slots y else .tup []), st.toks⟩ := by
  refine ⟨o, ho, ?_, fun h => by rw [hn] at h; simp at h⟩
  unfold rstepD
  simp only [hg]
  cases g with
  | false => simp
  | true =>
    have ha : aop (if d.wr.contains i then C else noM C) o.op st.slots st.toks = some ⟨ev st.slots y, st.slots, st.toks⟩ := by
      rcases hop with h | h <;> rw [h] <;> rfl
    simp only [if_true, ha]
    cases hc : d.cs.getD i 0 with
    | zero => simp [outDr, hl]
    | succ c =>
      have e1 : st.toks.drop L = [] := List.drop_of_length_le (by omega)
      have e2 : st.toks.take L = st.toks := List.take_of_length_le (by omega)
      have e3 : ren (shf L (offI base d i)) (ev st.slots y) = ev st.slots y := ren_id _ fun t ht => by unfold shf; rw [if_neg (by have := hr t ht; omega)]
      simp only [outDr, e1, e2, e3, nums, sets]
      simp

theorem move_inv {i : Nat} {o : Oper} {y : Operand} {st st' : ASt} (ho : ops[i]? = some o) (hop : o.op = .move y ∨ o.op = .assign y) (hn : needs i d.prs = false) (hl : st.toks.length = L) (hr : ∀ t ∈ refs (ev st.slots y), t < L)
    (h : stepI C ops d base L Rs i st st') : ∃ g, guardOk ops.toList st.slots o = some g ∧ st' = ⟨putD st.slots o.dst (if g then ev st.slots y else .tup []), st.toks⟩ := by
  obtain ⟨o', ho', hst, _⟩ := h
  rw [ho] at ho'; obtain rfl := Option.some.inj ho'
  cases hg : guardOk ops.toList st.slots o with
  | none => unfold rstepD at hst; rw [hg] at hst; simp at hst
  | some g =>
    obtain ⟨o'', ho'', hst', _⟩ := move_step (C := C) (Rs := Rs) (base := base) ho hop hn hl hr hg
    rw [ho] at ho''; obtain rfl := Option.some.inj ho''
    rw [hst] at hst'
    exact ⟨g, rfl, Option.some.inj hst'⟩

theorem mvO_op {o : Oper} (h : mvO o = true) : ∃ y, (o.op = .move y ∨ o.op = .assign y) ∧ o.op.operands.toList = [y] := by
  unfold mvO at h
  split at h
  · rename_i y hy; exact ⟨y, .inl hy, by rw [hy]; rfl⟩
  · rename_i y hy; exact ⟨y, .inr hy, by rw [hy]; rfl⟩
  · simp at h

/-- Two steps of which neither looks at what the other writes. -/
theorem stepI_swap {x i : Nat} {st s1 s2 : ASt} {D : Nat → Prop} {ox oi : Oper} (hL : L = base + d.cs.sum) (hf : Fine L st) (hf1 : Fine L s1) (hI : Inv base d D st) (hx : ¬ D x) (hi : ¬ D i) (hne : x ≠ i) (hox : ops[x]? = some ox) (hoi : ops[i]? = some oi)
    (hap : ox.apart ops oi = true) (hp : (wrt d x ox || wrt d i oi) = true → (mvO ox = true ∧ needs x d.prs = false) ∨ (mvO oi = true ∧ needs i d.prs = false) ∨ (needs x d.prs = true ∧ needs i d.prs = true ∧ ∃ a b, Rs x = some a ∧ Rs i = some b ∧ meets a b = false))
    (h1 : stepI C ops d base L Rs x st s1) (h2 : stepI C ops d base L Rs i s1 s2) : ∃ s1', stepI C ops d base L Rs i st s1' ∧ stepI C ops d base L Rs x s1' s2 := by
  obtain ⟨q1, q2, q3⟩ := Oper.apart_spec hap
  obtain ⟨ox', gx, vx, kx, sx, hox', hgx, rfl, x1, x2, x3, x4, x5, x6⟩ := stepI_eff hL hf h1
  rw [hox] at hox'; obtain rfl := Option.some.inj hox'
  obtain ⟨oi', gi, vi, ki, si, hoi', hgi, rfl, i1, i2, i3, i4, i5, i6⟩ := stepI_eff hL hf1 h2
  rw [hoi] at hoi'; obtain rfl := Option.some.inj hoi'
  simp only at hgi i1 i2 i3 i4 i5 i6
  -- what the later one looks at, ahead of the earlier one
  have evx : ∀ (s : List AV) v, ∀ y ∈ oi.op.operands.toList, ev (putD s ox.dst v) y = ev s y := fun s v y hy => ev_putD fun d0 hd0 e => q1 d0 hd0 (mem_looks (e ▸ hy))
  have evi : ∀ (s : List AV) v, ∀ y ∈ ox.op.operands.toList, ev (putD s oi.dst v) y = ev s y := fun s v y hy => ev_putD fun d0 hd0 e => q3 d0 hd0 (mem_looks (e ▸ hy))
  have gslot : ∀ {o : Oper} {j : Nat} {want : Bool} {o' : Oper} {d0 : Nat}, o.guard = some (j, want) → ops.toList[j]? = some o' → o'.dst = some d0 → d0 ∈ o.looksAt ops := fun {o j want o' d0} hg ho' hd => by
    unfold Oper.looksAt
    refine List.mem_append_right _ ?_
    have ho'' : ops[j]? = some o' := by simpa using ho'
    rw [hg]; simp [ho'', hd]
  have gx0 : ∀ v, guardOk ops.toList (putD (kls kx st.slots) ox.dst v) oi = guardOk ops.toList st.slots oi := fun v => guardOk_gv fun j want o' d0 hg ho' hd => by
    rw [getD_putD_ne fun e => q1 d0 e (gslot hg ho' hd), kls_getD]; exact gv_klf
  have gi0' : ∀ ks v, guardOk ops.toList (putD (kls ks st.slots) oi.dst v) ox = guardOk ops.toList st.slots ox := fun ks v => guardOk_gv fun j want o' d0 hg ho' hd => by
    rw [getD_putD_ne fun e => q3 d0 e (gslot hg ho' hd), kls_getD]; exact gv_klf
  have gi0 : ∀ v, guardOk ops.toList (putD (kls ki st.slots) oi.dst v) ox = guardOk ops.toList st.slots ox := gi0' ki
  by_cases hmx : mvO ox = true ∧ needs x d.prs = false
  · obtain ⟨y, hop, hys⟩ := mvO_op hmx.1
    obtain ⟨g, hg, e⟩ := move_inv hox hop hmx.2 hf.len (hf.rng y) h1
    have hsl := congrArg ASt.slots e
    have htk := congrArg ASt.toks e
    simp only at hsl htk
    have hs1' := i6 st.slots st.toks (fun _ z hz => by rw [hsl, evx _ _ z hz]) (by rw [← gx0 vx]; exact hgi) hf.len (fun _ t _ => by rw [htk])
    have hyv : ev (putD (kls ki st.slots) oi.dst vi) y = klf ki (ev st.slots y) := by rw [evi _ _ y (by rw [hys]; simp), ev_kls]
    refine ⟨_, hs1', ?_⟩
    have hst := move_step (C := C) (Rs := Rs) (base := base) (st := ⟨putD (kls ki st.slots) oi.dst vi, sets si st.toks⟩) (g := g) hox hop hmx.2 (by simp only [sets_len]; exact hf.len) (fun t ht => by rw [hyv] at ht; exact hf.rng y t (klf_refs t ht)) (by rw [gi0]; exact hg)
    have e1 : (⟨putD (kls ki (putD (kls kx st.slots) ox.dst vx)) oi.dst vi, sets si (sets sx st.toks)⟩ : ASt) = ⟨putD (putD (kls ki st.slots) oi.dst vi) ox.dst (if g then ev (putD (kls ki st.slots) oi.dst vi) y else .tup []), sets si st.toks⟩ := by
      have hv : klf ki (if g = true then ev st.slots y else .tup []) = if g = true then klf ki (ev st.slots y) else .tup [] := by
        split
        · rfl
        · exact klf_id fun k _ h => by simp [refs, refsL] at h
      rw [hsl, htk, hyv, kls_putD, hv, putD_comm _ _ fun e he he' => q2 e he he']
    rw [e1]; exact hst
  by_cases hmi : mvO oi = true ∧ needs i d.prs = false
  · obtain ⟨y, hop, hys⟩ := mvO_op hmi.1
    obtain ⟨g, hg, e⟩ := move_inv hoi hop hmi.2 hf1.len (hf1.rng y) h2
    have hyv : ev (putD (kls kx st.slots) ox.dst vx) y = klf kx (ev st.slots y) := by rw [evx _ _ y (by rw [hys]; simp), ev_kls]
    have hs1' := move_step (C := C) (Rs := Rs) (base := base) (st := st) (g := g) hoi hop hmi.2 hf.len (hf.rng y) (by rw [← gx0 vx]; exact hg)
    refine ⟨_, hs1', ?_⟩
    have hst := x6 (putD st.slots oi.dst (if g then ev st.slots y else .tup [])) st.toks (fun _ z hz => evi _ _ z hz) (by rw [show putD st.slots oi.dst (if g then ev st.slots y else .tup []) = putD (kls [] st.slots) oi.dst (if g then ev st.slots y else .tup []) from rfl, gi0']; exact hgx) hf.len (fun _ t _ => rfl)
    rw [e]
    have hv : klf kx (if g = true then ev st.slots y else .tup []) = if g = true then klf kx (ev st.slots y) else .tup [] := by
      split
      · rfl
      · exact klf_id fun k _ h => by simp [refs, refsL] at h
    simp only [hyv]
    rw [kls_putD, hv, putD_comm _ _ fun e he he' => q2 e he' he] at hst
    exact hst
  rw [gx0] at hgi
  -- the rows of the two do not meet, if one of them turns any
  have hdis : wrt d x ox = true ∨ wrt d i oi = true → ∃ a b, stR st.slots ox.op (some gx) = some a ∧ stR (putD (kls kx st.slots) ox.dst vx) oi.op (some gi) = some b ∧ ∀ t ∈ a, t ∉ b := fun hw => by
    obtain ⟨n1, n2, a, b, r1, r2, r3⟩ := ((hp (by simpa using hw)).resolve_left hmx).resolve_left hmi
    exact ⟨a, b, (x5 n1).trans r1, (i5 n2).trans r2, meets_no r3⟩
  have hopx : (putD (kls kx st.slots) ox.dst vx) = putD (kls kx st.slots) ox.dst vx := rfl
  have hevi : gi = true → ∀ y ∈ oi.op.operands.toList, ev st.slots y = ev (putD (kls kx st.slots) ox.dst vx) y := fun hgt y hy => by
    rw [evx _ _ y hy, ev_kls]
    cases hw : wrt d x ox with
    | false => rw [(x3 hw).1]; rfl
    | true =>
      obtain ⟨a, b, r1, r2, r3⟩ := hdis (.inl hw)
      subst hgt
      simp only [stR] at r2
      split at r2
      · simp at r2
      · rename_i hj
        have hjy : jk (klf kx (ev st.slots y)) = false := by
          have hmem : ev (putD (kls kx st.slots) ox.dst vx) y ∈ oi.op.operands.toList.map (ev (putD (kls kx st.slots) ox.dst vx)) := List.mem_map.2 ⟨y, hy, rfl⟩
          have : ∀ l : List AV, jkL l = false → ∀ z ∈ l, jk z = false := by
            intro l
            induction l with
            | nil => intro _ z hz; simp at hz
            | cons c cs ih =>
              intro h z hz
              simp only [jkL, Bool.or_eq_false_iff] at h
              rcases List.mem_cons.1 hz with rfl | hz
              · exact h.1
              · exact ih h.2 z hz
          have := this _ (by simpa using hj) _ hmem
          rw [evx _ _ y hy, ev_kls] at this
          exact this
        have : ∀ (ks : List (Bool × Nat)) (z : AV), jk (klf ks z) = false → klf ks z = z := by
          intro ks
          induction ks with
          | nil => intro z _; rfl
          | cons k ks ih =>
            intro z h
            simp only [klf, List.foldl_cons] at h ⊢
            have e := ih (kl k z) h
            simp only [klf] at e
            rw [e] at h ⊢
            exact kl_jk k z h
        exact (this kx _ hjy).symm
  have hRi : gi = true → opR (putD (kls kx st.slots) ox.dst vx) oi.op = opR st.slots oi.op := fun hgt => by
    unfold opR; congr 1
    exact List.map_congr_left fun y hy => (hevi hgt y hy).symm
  have hno : ∀ {o : Oper} {t j : Nat}, t ∈ opR st.slots o.op → ¬ D j → ¬ ownN base d j t := fun {o t j} ht hj ho => by
    obtain ⟨y, _, hy⟩ := opR_ev ht
    rcases hI y t hy with h | ⟨j', h1, h2⟩
    · have := (own_lt hL ho).1; omega
    · by_cases e : j' = j
      · subst e; exact hj h1
      · exact own_disj e h2 ho
  have hab : gx = true → gi = true → (wrt d x ox = true ∨ wrt d i oi = true) → ∀ t ∈ opR st.slots ox.op, t ∉ opR st.slots oi.op := fun g1 g2 hw t ht ht' => by
    obtain ⟨a, b, r1, r2, r3⟩ := hdis hw
    subst g1; subst g2
    simp only [stR] at r1 r2
    split at r1
    · simp at r1
    · split at r2
      · simp at r2
      · simp only [Option.some.injEq] at r1 r2
        rw [← r1, ← r2, hRi rfl] at r3
        exact r3 t ht ht'
  -- the later one first
  have hs1' := i6 st.slots st.toks hevi hgi hf.len (fun hgt t ht => by
    rw [hRi hgt] at ht
    symm
    refine sets_get fun k hk e => ?_
    rcases x2 k hk with ⟨g1, h⟩ | h
    · cases hw : wrt d x ox with
      | false => exact hno ht hx (e ▸ (x3 hw).2 k hk)
      | true => exact hab g1 hgt (.inl hw) k.1 h (e ▸ ht)
    · exact hno ht hx (e ▸ h))
  refine ⟨_, hs1', ?_⟩
  have hevx : gx = true → ∀ y ∈ ox.op.operands.toList, ev (putD (kls ki st.slots) oi.dst vi) y = ev st.slots y := fun hgt y hy => by
    rw [evi _ _ y hy, ev_kls]
    refine klf_id fun k hk ht => ?_
    obtain ⟨g2, h⟩ := i1 k hk
    rw [hRi g2] at h
    cases hw : wrt d i oi with
    | false => rw [(i3 hw).1] at hk; simp at hk
    | true => exact hab hgt g2 (.inr hw) k.2 (refsL_map_mem hy k.2 ht) h
  have hs2 := x6 (putD (kls ki st.slots) oi.dst vi) (sets si st.toks) hevx (by rw [gi0]; exact hgx) (by rw [sets_len]; exact hf.len) (fun hgt t ht => by
    refine sets_get fun k hk e => ?_
    rcases i2 k hk with ⟨g2, h⟩ | h
    · rw [hRi g2] at h
      cases hw : wrt d i oi with
      | false => exact hno ht hi (e ▸ (i3 hw).2 k hk)
      | true => exact hab hgt g2 (.inr hw) k.1 (e ▸ ht) h
    · exact hno ht hi (e ▸ h))
  -- the two ends are the same
  have hkx : klf kx vi = vi := klf_id fun k hk ht => by
    obtain ⟨g1, h⟩ := x1 k hk
    rcases i4 k.2 ht with ⟨g2, h'⟩ | h'
    · rw [hRi g2] at h'
      cases hw : wrt d x ox with
      | false => rw [(x3 hw).1] at hk; simp at hk
      | true => exact hab g1 g2 (.inl hw) k.2 h h'
    · exact hno h hi h'
  have hki : klf ki vx = vx := klf_id fun k hk ht => by
    obtain ⟨g2, h⟩ := i1 k hk
    rw [hRi g2] at h
    rcases x4 k.2 ht with ⟨g1, h'⟩ | h'
    · cases hw : wrt d i oi with
      | false => rw [(i3 hw).1] at hk; simp at hk
      | true => exact hab g1 g2 (.inr hw) k.2 h' h
    · exact hno h hx h'
  have e1 : putD (kls kx (putD (kls ki st.slots) oi.dst vi)) ox.dst vx = putD (kls ki (putD (kls kx st.slots) ox.dst vx)) oi.dst vi := by
    rw [kls_putD, kls_putD, hkx, hki, kls_comm]
    exact putD_comm _ _ fun e he he' => q2 e he' he
  have e2 : sets sx (sets si st.toks) = sets si (sets sx st.toks) := sets_comm fun a ha b hb e => by
    rcases x2 a ha with ⟨g1, h⟩ | h <;> rcases i2 b hb with ⟨g2, h'⟩ | h'
    · rw [hRi g2] at h'
      cases hw : wrt d x ox with
      | false => exact hno h' hx (e ▸ (x3 hw).2 a ha)
      | true => exact hab g1 g2 (.inl hw) a.1 h (e ▸ h')
    · exact hno h hi (e ▸ h')
    · rw [hRi g2] at h'; exact hno h' hx (e ▸ h)
    · exact own_disj hne h (e ▸ h')
  rw [← e1, ← e2]; exact hs2

end
end Go.Proofs.YtkfgmpmeipilnaaDoor.Ax

/-
  A region whose order is open: the order of the text serves every order. No condition.
-/
namespace Go.Proofs.YtkfgmpmeipilnaaDoor.Ax
open Go Go.RowKit

section
variable {w : World} {E E' : Env} {toks toks' : List Tok} {f : Nat → Nat}
mutual
theorem SRep.ren (hF : E'.F = E.F) : ∀ (x : AV) (y : Value), SRep w E toks x y → (∀ t ∈ refs x, t < toks.length → toks'[f t]? = toks[t]? ∧ E'.hd (f t) = E.hd t) → SRep w E' toks' (Ax.ren f x) y
  | .v _, _, k, _ => by simpa [SRep, Ax.ren] using k
  | .agg cs, y, k, h => by simp only [SRep, Ax.ren] at k ⊢; obtain ⟨ys, rfl, k⟩ := k; exact ⟨ys, rfl, SRepL.ren hF cs _ k (by simpa [refs] using h)⟩
  | .tup cs, y, k, h => by simp only [SRep, Ax.ren] at k ⊢; obtain ⟨ys, rfl, k⟩ := k; exact ⟨ys, rfl, SRepL.ren hF cs _ k (by simpa [refs] using h)⟩
  | .sl nl sz es, y, k, _ => by simp only [SRep, Ax.ren] at k ⊢; rw [hF]; exact k
  | .fp e j, y, k, _ => by simp only [SRep, Ax.ren] at k ⊢; rw [hF]; exact k
  | .fn g cs, y, k, h => by simp only [SRep, Ax.ren] at k ⊢; obtain ⟨ys, rfl, k⟩ := k; exact ⟨ys, rfl, SRepL.ren hF cs _ k (by simpa [refs] using h)⟩
  | .ref t p lo n, y, k, h => by
    simp only [SRep, Ax.ren] at k ⊢
    obtain ⟨h1, h2⟩ := h t (by simp [refs]) k.1
    have hlt : f t < toks'.length := by
      rw [List.getElem?_eq_getElem k.1] at h1
      exact (List.getElem?_eq_some_iff.1 h1).1
    refine ⟨hlt, fun tk nl sz es g1 g2 g3 => ?_⟩
    rw [h1] at g1
    rw [h2]
    exact k.2 tk nl sz es g1 g2 g3
  | .ptr t p i j, y, k, h => by
    simp only [SRep, Ax.ren] at k ⊢
    obtain ⟨h1, h2⟩ := h t (by simp [refs]) k.1
    have hlt : f t < toks'.length := by
      rw [List.getElem?_eq_getElem k.1] at h1
      exact (List.getElem?_eq_some_iff.1 h1).1
    refine ⟨hlt, fun tk nl sz es g1 g2 g3 => ?_⟩
    rw [h1] at g1
    rw [h2]
    exact k.2 tk nl sz es g1 g2 g3
  | .junk, _, _, _ => by simp [SRep, Ax.ren]
theorem SRepL.ren (hF : E'.F = E.F) : ∀ (x : List AV) (y : List Value), SRepL w E toks x y → (∀ t ∈ refsL x, t < toks.length → toks'[f t]? = toks[t]? ∧ E'.hd (f t) = E.hd t) → SRepL w E' toks' (Ax.renL f x) y
  | [], _, k, _ => by simpa [SRepL, Ax.renL] using k
  | c :: cs, y, k, h => by
    simp only [SRepL, Ax.renL] at k ⊢
    obtain ⟨y, ys, rfl, k1, k2⟩ := k
    exact ⟨y, ys, rfl, SRep.ren hF c y k1 (fun t ht => h t (by simp [refsL, ht])), SRepL.ren hF cs ys k2 (fun t ht => h t (by simp [refsL, ht]))⟩
end
end


theorem renL_map' (f : Nat → Nat) : ∀ (l : List AV), renL f l = l.map (ren f)
  | [] => rfl
  | c :: cs => by simp [renL, renL_map' f cs]

section
variable {P : Program} {a : Act} {w : World} {U : Ld} {w0 : World} {E : Env}

/-- The rows are numbered anew. -/
theorem SR.rename {slots : List AV} {toks toks' : List Tok} {f g : Nat → Nat} (hs : SR U w0 ⟨slots, toks⟩ E a w)
    (h1 : ∀ (i : Nat) (x : AV), slots[i]? = some x → ∀ t ∈ refs x, t < toks.length → toks'[f t]? = toks[t]? ∧ g (f t) = t)
    (h2 : ∀ (t : Nat) (tk : Tok), toks'[t]? = some tk → toks[g t]? = some tk) (h3 : ∀ t t', t < toks'.length → t' < toks'.length → g t = g t' → t = t') :
    ∃ E' : Env, SR U w0 ⟨renL f slots, toks'⟩ E' a w := by
  let E' : Env := { F := E.F, hd := fun t => E.hd (g t), S := fun t b => t < toks'.length ∧ E.S (g t) b }
  refine ⟨E', hs.defers, by simpa [renL_map'] using hs.size, fun i x hi => ?_, hs.flt, fun t tk ht => ?_, fun t b hb => hs.slt (g t) b hb.2, fun t t' b hne hb hb' => ?_, hs.frame, hs.pin⟩
  · simp only [renL_map', List.getElem?_map, Option.map_eq_some_iff] at hi
    obtain ⟨x0, hx0, rfl⟩ := hi
    refine SRep.ren (E := E) (E' := E') (toks := toks) rfl x0 _ (hs.slot i x0 hx0) fun t ht hlt => ?_
    obtain ⟨k1, k2⟩ := h1 i x0 hx0 t ht hlt
    exact ⟨k1, by show E.hd (g (f t)) = E.hd t; rw [k2]⟩
  · have hg := h2 t tk ht
    rcases hs.tok (g t) tk hg with h | ⟨nl, sz, es, k1, k2⟩
    · exact .inl h
    · exact .inr ⟨nl, sz, es, k1, k2.weak (fun _ h => h) (fun b hb => ⟨(List.getElem?_eq_some_iff.1 ht).1, hb⟩) (Agree.refl _ _)⟩
  · exact hs.sep (g t) (g t') b (fun e => hne (h3 t t' hb.1 hb'.1 e)) hb.2 hb'.2

theorem SR.pad {slots : List AV} {toks : List Tok} (n : Nat) (hs : SR U w0 ⟨slots, toks⟩ E a w) : ∃ E' : Env, SR U w0 ⟨slots, toks ++ List.replicate n ⟨true, .junk⟩⟩ E' a w := by
  induction n with
  | zero => exact ⟨E, by simpa using hs⟩
  | succ n ih =>
    obtain ⟨E1, h1⟩ := ih
    obtain ⟨E2, _, _, _, _, h2⟩ := h1.newTok ⟨true, .junk⟩ undef (fun _ => False) (fun _ h => h.elim) (.inl rfl)
    refine ⟨E2, ?_⟩
    rw [List.replicate_succ', ← List.append_assoc]
    exact h2

theorem SR.inRange {st : ASt} (hs : SR U w0 st E a w) (y : Operand) : Ax.inRange st.toks.length (Ax.ev st.slots y) := SRep.inRange _ _ (hs.ev y)

/-- Some act and world stand for it. -/
def Good (U : Ld) (w0 : World) (L : Nat) (st : ASt) : Prop := st.toks.length = L ∧ ∃ E a w, SR U w0 st E a w

theorem SR.fine {st : ASt} {L : Nat} (hs : SR U w0 st E a w) (hl : st.toks.length = L) : Fine L st :=
  ⟨hl, fun y => SRep.okA _ _ (hs.ev y), fun t tk ht => by
    rcases hs.tok t tk ht with h | ⟨nl, sz, es, k1, k2⟩
    · rw [h]; simp [pureA]
    · rw [k1]; exact Rep.pure _ _ (Own.rep _ _ k2.own), fun y t ht => by rw [← hl]; exact inRange_refs _ (hs.inRange y) t ht⟩

variable {C : Ctx} {ops : Array Oper} {d : RD} {base L : Nat} {Rs : Nat → Option (List Nat)}

/-- A step: it is passed over, or carried out. -/
def Stp (P : Program) (ops : Array Oper) (o : Oper) (K : Act → World → Prop) (a : Act) (w : World) : Prop :=
  if Region.wanted o (yielded ops a.tmps) then Does P o a w K else K (a.put o.dst undef) w

theorem Stp.some {o : Oper} {K : Act → World → Prop} (h : Stp P ops o K a w) : ∃ a' w', K a' w' := by
  unfold Stp at h
  split at h
  · exact h.some
  · exact ⟨_, _, h⟩

/-- One step, in whatever order. -/
theorem stepI_stp (hC : C.Ok P) {i : Nat} {st st' : ASt} (hL : L = base + d.cs.sum) (hl : st.toks.length = L) (hI : ∀ y, ∀ t ∈ refs (ev st.slots y), ¬ ownN base d i t) (hds : ∀ o, ops[i]? = some o → ∀ e, o.dst = some e → e ∉ U.idx) (hs : SR U w0 st E a w)
    (h : stepI C ops d base L Rs i st st') {K : Act → World → Prop} (hn : ∀ E' a' w', SR U w0 st' E' a' w' → K a' w') : ∃ o, ops[i]? = some o ∧ Stp P ops o K a w := by
  have hf := hs.fine hl
  obtain ⟨o, ho, hst, _⟩ := h
  have hd := hds o ho
  have hC' : (if d.wr.contains i then C else noM C).Ok P := by split; exact hC; exact noM_ok hC
  unfold rstepD at hst
  split at hst
  rotate_left
  · simp at hst
  rename_i gd hg
  refine ⟨o, ho, ?_⟩
  unfold Stp
  rw [wanted_ok hs hg]
  cases gd with
  | false =>
    simp only [Bool.false_eq_true, if_false] at hst ⊢
    simp only [Option.some.injEq] at hst
    subst hst
    exact hn E _ _ (SR.put (slots := st.slots) (toks := st.toks) hs o.dst hd (x := .tup []) (y := undef) (by simp [SRep, SRepL, undef]))
  | true =>
    simp only [if_true] at hst ⊢
    cases hr : aop (if d.wr.contains i then C else noM C) o.op st.slots st.toks with
    | none => rw [hr] at hst; simp [outDr] at hst
    | some r =>
      rw [hr] at hst
      refine aop_ok hC' hs hr hd K fun E' a' w' hs' => ?_
      cases hc : d.cs.getD i 0 with
      | zero =>
        rw [hc] at hst
        simp only [outDr] at hst
        split at hst
        · simp only [Option.some.injEq] at hst; subst hst; exact hn E' a' w' hs'
        · simp at hst
      | succ c =>
        rw [hc] at hst
        simp only [outDr] at hst
        split at hst
        rotate_left
        · simp at hst
        rename_i hlen
        simp only [Option.some.injEq] at hst
        obtain ⟨ks, ss, m, e1, e2, e3, e4, e5, e6, e7⟩ := aop_loc (fun y _ => hf.ok y) hf.pure hr
        have hrl : (sets ss st.toks).length = L := by rw [sets_len]; exact hl
        have hd1 : r.toks.drop L = m := by rw [e2, List.drop_append_of_le_length (by omega), List.drop_of_length_le (by omega), List.nil_append]
        have hd2 : r.toks.take L = sets ss st.toks := by rw [e2, List.take_append_of_le_length (by omega), List.take_of_length_le (by omega)]
        rw [hd1] at hlen hst
        rw [hd2] at hst
        generalize hoff : offI base d i = off at *
        have hown : ∀ t, off ≤ t → t < off + m.length → ownN base d i t := fun t h1 h2 => ⟨by rw [hoff]; exact h1, by rw [hoff, hc]; omega⟩
        have hoL : off + m.length ≤ L := by
          by_cases hm : m.length = 0
          · have := sum_take_all d.cs i; unfold offI at hoff; omega
          · have := (own_lt hL (hown (off + m.length - 1) (by omega) (by omega))).2; omega
        have hold : ∀ y, ∀ t ∈ refs (ev st.slots y), t < L ∧ ¬ (off ≤ t ∧ t < off + m.length) := fun y t ht => ⟨hf.rng y t ht, fun h => hI y t ht (hown t h.1 h.2)⟩
        have hslot : ∀ (j : Nat) (x : AV), (kls ks st.slots)[j]? = some x → ∀ t ∈ refs x, t < L ∧ ¬ (off ≤ t ∧ t < off + m.length) := fun j x hj t ht => by
          have : x = ev (kls ks st.slots) (.tmp j) := by simp [ev, List.getD_eq_getElem?_getD, hj]
          rw [this, ev_kls] at ht
          exact hold (.tmp j) t (klf_refs t ht)
        have hval : ∀ t ∈ refs r.val, (t < L ∧ ¬ (off ≤ t ∧ t < off + m.length)) ∨ (L ≤ t ∧ t < L + m.length) := fun t ht => by
          rcases e6 t ht with h | h
          · obtain ⟨y, _, hy⟩ := opR_ev h; exact .inl (hold y t hy)
          · rw [hl] at h; exact .inr h
        have hmem : ∀ (j : Nat) (x : AV), (putD r.slots o.dst r.val)[j]? = some x → ∀ t ∈ refs x, (t < L ∧ ¬ (off ≤ t ∧ t < off + m.length)) ∨ (L ≤ t ∧ t < L + m.length) := fun j x hj t ht => by
          rw [e1] at hj
          cases hdst : o.dst with
          | none => rw [hdst] at hj; exact .inl (hslot j x hj t ht)
          | some d0 =>
            rw [hdst] at hj
            simp only [putD] at hj
            by_cases e : j = d0
            · subst e
              by_cases hlt : j < (kls ks st.slots).length
              · rw [List.getElem?_set_self hlt] at hj; obtain rfl := Option.some.inj hj; exact hval t ht
              · rw [List.getElem?_eq_none (by simpa using hlt)] at hj; simp at hj
            · rw [List.getElem?_set_ne (fun h => e h.symm)] at hj; exact .inl (hslot j x hj t ht)
        have hlk : ∀ t, t < L → r.toks[t]? = (sets ss st.toks)[t]? := fun t ht => by rw [e2, List.getElem?_append_left (by omega)]
        have hlk2 : ∀ j, r.toks[L + j]? = m[j]? := fun j => by rw [e2, List.getElem?_append_right (by omega)]; congr 1; omega
        obtain ⟨E'', hs''⟩ := hs'.rename (toks' := sets (nums off m) (sets ss st.toks)) (f := shf L off) (g := fun t => if off ≤ t ∧ t < off + m.length then L + (t - off) else t)
          (fun j x hj t ht hlt => by
            rcases hmem j x hj t ht with ⟨h1, h2⟩ | ⟨h1, h2⟩
            · have e : shf L off t = t := by unfold shf; rw [if_neg (by omega)]
              rw [e, if_neg h2, hlk t h1]
              exact ⟨sets_get fun k hk e => h2 (by have := nums_mem hk; omega), rfl⟩
            · have e : shf L off t = off + (t - L) := by unfold shf; rw [if_pos h1]
              rw [e, if_pos (by omega), nums_get (by omega) (by rw [hrl]; exact hoL)]
              refine ⟨?_, by omega⟩
              have := hlk2 (t - L)
              rw [show L + (t - L) = t by omega] at this
              exact this.symm)
          (fun t tk ht => by
            have htL : t < L := by have := (List.getElem?_eq_some_iff.1 ht).1; rw [sets_len, hrl] at this; exact this
            show r.toks[if off ≤ t ∧ t < off + m.length then L + (t - off) else t]? = some tk
            split
            · rename_i h
              rw [show t = off + (t - off) by omega, nums_get (by omega) (by rw [hrl]; exact hoL)] at ht
              rw [hlk2]; exact ht
            · rename_i h
              rw [hlk t htL]
              rw [sets_get fun k hk e => h (by have := nums_mem hk; omega)] at ht
              exact ht)
          (fun t t' ht ht' e => by
            rw [sets_len, hrl] at ht ht'
            split at e <;> split at e <;> omega)
        refine hn E'' a' w' ?_
        rw [← hst]
        have hid : ∀ l : List AV, (∀ (j : Nat) (x : AV), l[j]? = some x → ∀ t ∈ refs x, t < L) → renL (shf L off) l = l := fun l hl => by
          rw [renL_map']
          conv => rhs; rw [← List.map_id l]
          refine List.map_congr_left fun x hx => ?_
          obtain ⟨j, hj⟩ := List.mem_iff_getElem?.1 hx
          exact ren_id x fun t ht => by unfold shf; rw [if_neg (by have := hl j x hj t ht; omega)]
        have : renL (shf L off) (putD r.slots o.dst r.val) = putD r.slots o.dst (ren (shf L off) r.val) := by
          rw [e1]
          have hk := hid (kls ks st.slots) fun j x hj t ht => (hslot j x hj t ht).1
          cases o.dst with
          | none => exact hk
          | some d0 => simp only [putD]; rw [renL_map', List.map_set, ← renL_map', hk]
        rw [← this]; exact hs''

theorem stepI_ok (hC : C.Ok P) {i : Nat} {st st' : ASt} (hL : L = base + d.cs.sum) (hl : st.toks.length = L) (hI : ∀ y, ∀ t ∈ refs (ev st.slots y), ¬ ownN base d i t) (hds : ∀ o, ops[i]? = some o → ∀ e, o.dst = some e → e ∉ U.idx) (hs : SR U w0 st E a w)
    (h : stepI C ops d base L Rs i st st') {K : Act → World → Prop} {Q : Exit → Act → World → Prop} (ro : Option Nat) (hn : ∀ E' a' w', SR U w0 st' E' a' w' → K a' w') : wpOpIn (fen ro) 0 P ops Q i K a w := by
  obtain ⟨o, ho, hst⟩ := stepI_stp hC hL hl hI hds hs h hn
  unfold Stp at hst
  unfold wpOpIn
  simp only [ho]
  split at hst
  · rename_i hw; rw [if_pos hw]; exact hst.wpIn ro
  · rename_i hw; rw [if_neg hw]; exact ⟨fun _ _ => trivial, hst⟩

theorem stepI_good (hC : C.Ok P) {i : Nat} {st st' : ASt} (hL : L = base + d.cs.sum) (hI : ∀ y, ∀ t ∈ refs (ev st.slots y), ¬ ownN base d i t) (hds : ∀ (j : Nat) (oj : Oper), ops[j]? = some oj → ∀ e, oj.dst = some e → e ∉ U.idx) (hg : Good U w0 L st)
    (h : stepI C ops d base L Rs i st st') : Good U w0 L st' := by
  obtain ⟨hl, E, a, w, hs⟩ := hg
  obtain ⟨_, _, hst⟩ := stepI_stp hC (K := fun a' w' => ∃ E', SR U w0 st' E' a' w') hL hl hI (hds i) hs h fun E' a' w' hs' => ⟨E', hs'⟩
  obtain ⟨a1, w1, E1, h1⟩ := hst.some
  obtain ⟨_, _, _, _, _, _, _, e, _⟩ := stepI_eff hL (hs.fine hl) h
  refine ⟨?_, E1, a1, w1, h1⟩
  rw [e]; simpa [sets_len] using hl

theorem Inv.not_own {D : Nat → Prop} {st : ASt} {i : Nat} (hL : L = base + d.cs.sum) (h : Inv base d D st) (hi : ¬ D i) : ∀ y, ∀ t ∈ refs (ev st.slots y), ¬ ownN base d i t := fun y t ht ho => by
  rcases h y t ht with h | ⟨j, h1, h2⟩
  · have := (own_lt hL ho).1; omega
  · by_cases e : j = i
    · subst e; exact hi h1
    · exact own_disj e h2 ho

/-- One of the steps is taken first. -/
theorem runI_front (hC : C.Ok P) (hL : L = base + d.cs.sum) (hds : ∀ (j : Nat) (oj : Oper), ops[j]? = some oj → ∀ e, oj.dst = some e → e ∉ U.idx) {i : Nat} {oi : Oper} (hoi : ops[i]? = some oi) {fin : ASt} :
    ∀ (r1 r2 : List Nat) (D : Nat → Prop) (st : ASt), Good U w0 L st → Inv base d D st → ¬ D i → i ∉ r1 → r1.Nodup → (∀ x ∈ r1, ¬ D x) →
      (∀ x ∈ r1, ∃ ox, ops[x]? = some ox ∧ ox.apart ops oi = true ∧ ((wrt d x ox || wrt d i oi) = true → (mvO ox = true ∧ needs x d.prs = false) ∨ (mvO oi = true ∧ needs i d.prs = false) ∨ (needs x d.prs = true ∧ needs i d.prs = true ∧ ∃ a b, Rs x = some a ∧ Rs i = some b ∧ meets a b = false))) →
      runI C ops d base L Rs (r1 ++ i :: r2) st fin → ∃ st', stepI C ops d base L Rs i st st' ∧ runI C ops d base L Rs (r1 ++ r2) st' fin
  | [], r2, D, st, _, _, _, _, _, _, _, h => h
  | x :: r1, r2, D, st, hg, hI, hDi, hni, hnd, hDx, hok, h => by
    obtain ⟨s1, h1, h2⟩ := h
    rw [List.nodup_cons] at hnd
    simp only [List.mem_cons, not_or] at hni
    have hx := hDx x (by simp)
    have hg1 := stepI_good hC hL (hI.not_own hL hx) hds hg h1
    obtain ⟨hl, E, a, w, hs⟩ := hg
    have hf := hs.fine hl
    have hI1 := stepI_inv hL hf hI h1
    obtain ⟨s2, h3, h4⟩ := runI_front hC hL hds hoi r1 r2 (fun j => D j ∨ j = x) s1 hg1 hI1 (fun h => h.elim hDi hni.1) hni.2 hnd.2 (fun y hy h => h.elim (hDx y (by simp [hy])) fun e => hnd.1 (e ▸ hy)) (fun y hy => hok y (by simp [hy])) h2
    obtain ⟨ox, k1, k2, k3⟩ := hok x (by simp)
    obtain ⟨hl1, E1, a1, w1, hs1⟩ := hg1
    obtain ⟨s1', g1, g2⟩ := stepI_swap hL hf (hs1.fine hl1) hI hx hDi (fun e => hni.1 e.symm) k1 hoi k2 k3 h1 h3
    exact ⟨s1', g1, s2, g2, h4⟩

def edgeB (o : Oper) (x : Nat) : Bool := o.after.any fun e => Region.binds .any e && e.on == x

/-- For each operation a mask of those that must come first. -/
def ancs : List Oper → List Nat → List Nat
  | [], acc => acc
  | o :: rest, acc => ancs rest (acc ++ [o.after.toList.foldl (fun s e => if Region.binds .any e then s ||| 2 ^ e.on ||| acc.getD e.on 0 else s) 0])


def drawOk (ops : Array Oper) (d : RD) : Bool :=
  (List.range ops.size).all fun i => match ops[i]? with
    | some o => (o.after.all fun e => !Region.binds .any e || decide (e.on < i)) && (List.range i).all fun x => ((ancs ops.toList []).getD i 0).testBit x || (match ops[x]? with
      | some ox => ox.apart ops o && (!(wrt d x ox || wrt d i o) || ((mvO ox && !needs x d.prs) || (mvO o && !needs i d.prs)) || d.prs.contains (x, i))
      | none => false)
    | none => false

theorem testBit_fold {x : Nat} (acc : List Nat) : ∀ (l : List Edge) (s : Nat), (l.foldl (fun s e => if Region.binds .any e then s ||| 2 ^ e.on ||| acc.getD e.on 0 else s) s).testBit x = true →
    s.testBit x = true ∨ ∃ e ∈ l, Region.binds .any e = true ∧ (x = e.on ∨ (acc.getD e.on 0).testBit x = true)
  | [], s, h => .inl h
  | e :: l, s, h => by
    simp only [List.foldl_cons] at h
    rcases testBit_fold acc l _ h with h | ⟨e', h1, h2⟩
    · split at h
      · rename_i hb
        rw [Nat.testBit_or, Nat.testBit_or, Bool.or_eq_true, Bool.or_eq_true] at h
        rcases h with (h | h) | h
        · exact .inl h
        · refine .inr ⟨e, by simp, hb, .inl ?_⟩
          rw [Nat.testBit_two_pow] at h
          exact (show e.on = x by simpa using h).symm
        · exact .inr ⟨e, by simp, hb, .inr h⟩
      · exact .inl h
    · exact .inr ⟨e', by simp [h1], h2⟩

/-- What must come first is done, if all that comes right before is done and what is done is so. -/
theorem ancs_ok {D : Nat → Prop} {ops : List Oper} (hD : ∀ j oj, ops[j]? = some oj → D j → ∀ e ∈ oj.after, Region.binds .any e = true → D e.on) :
    ∀ (rest : List Oper) (acc : List Nat), (∀ j, rest[j]? = ops[acc.length + j]?) →
      (∀ i oi x, i < acc.length → ops[i]? = some oi → (∀ e ∈ oi.after, Region.binds .any e = true → D e.on) → (acc.getD i 0).testBit x = true → D x) →
      ∀ i oi x, ops[i]? = some oi → (∀ e ∈ oi.after, Region.binds .any e = true → D e.on) → ((ancs rest acc).getD i 0).testBit x = true → D x
  | [], acc, hr, hacc, i, oi, x, hi, hall, hb => by
    simp only [ancs] at hb
    refine hacc i oi x ?_ hi hall hb
    rcases Nat.lt_or_ge i acc.length with h | h
    · exact h
    · rw [List.getD_eq_getElem?_getD, List.getElem?_eq_none h] at hb; simp at hb
  | o :: rest, acc, hr, hacc, i, oi, x, hi, hall, hb => by
    simp only [ancs] at hb
    refine ancs_ok hD rest _ (fun j => ?_) (fun i' oi' x' hi' ho' hall' hb' => ?_) i oi x hi hall hb
    · have := hr (j + 1); simp at this; rw [this]; simp; congr 1; omega
    · by_cases hlt : i' < acc.length
      · rw [List.getD_eq_getElem?_getD, List.getElem?_append_left hlt, ← List.getD_eq_getElem?_getD] at hb'
        exact hacc i' oi' x' hlt ho' hall' hb'
      · have he : i' = acc.length := by simp at hi'; omega
        subst he
        have h0 := hr 0; simp at h0
        rw [ho'] at h0
        obtain rfl := Option.some.inj h0
        rw [List.getD_eq_getElem?_getD, List.getElem?_append_right (Nat.le_refl _)] at hb'
        simp at hb'
        rcases testBit_fold acc o.after.toList 0 (by simpa using hb') with h | ⟨e, h1, h2, h3⟩
        · simp at h
        · have hde := hall' e (by simpa using h1) h2
          rcases h3 with h3 | h3
          · rw [h3]; exact hde
          · have hlt' : e.on < acc.length := by
              rcases Nat.lt_or_ge e.on acc.length with h | h
              · exact h
              · rw [List.getD_eq_getElem?_getD, List.getElem?_eq_none h] at h3; simp at h3
            cases hoe : ops[e.on]? with
            | none =>
              have := hr 0
              have hl1 : acc.length < ops.length := (List.getElem?_eq_some_iff.1 ho').1
              have := List.getElem?_eq_none_iff.1 hoe
              omega
            | some oe => exact hacc e.on oe x' hlt' hoe (hD e.on oe hoe hde) h3


theorem needs_mem {x i : Nat} : ∀ {prs : List (Nat × Nat)}, (x, i) ∈ prs → needs x prs = true ∧ needs i prs = true
  | [], h => by simp at h
  | (y, j) :: l, h => by
    simp only [needs, Bool.or_eq_true, beq_iff_eq]
    rcases List.mem_cons.1 h with h | h
    · simp only [Prod.mk.injEq] at h; exact ⟨.inl (.inl h.1.symm), .inl (.inr h.2.symm)⟩
    · exact ⟨.inr (needs_mem h).1, .inr (needs_mem h).2⟩

/-- Whatever order the edges allow. -/
theorem wpAny_ok (hC : C.Ok P) (hL : L = base + d.cs.sum) (hds : ∀ (j : Nat) (oj : Oper), ops[j]? = some oj → ∀ e, oj.dst = some e → e ∉ U.idx) (hok : drawOk ops d = true)
    (hRs : ∀ x i, (x, i) ∈ d.prs → i < ops.size → ∃ a b, Rs x = some a ∧ Rs i = some b ∧ meets a b = false) {fin : ASt} {Q : Exit → Act → World → Prop} (ro : Option Nat) (hQ : ∀ E' a' w', SR U w0 fin E' a' w' → Q .normal a' w') :
    ∀ (fuel : Nat) (listed : Array Bool) (st : ASt) (E : Env) (a : Act) (w : World), listed.size = ops.size →
      (∀ j oj, ops[j]? = some oj → listed.getD j false = true → ∀ e ∈ oj.after, Region.binds .any e = true → listed.getD e.on false = true) →
      ((List.range ops.size).filter fun i => !listed.getD i true).length ≤ fuel → st.toks.length = L → Inv base d (fun j => listed.getD j false = true) st → SR U w0 st E a w → runI C ops d base L Rs ((List.range ops.size).filter fun i => !listed.getD i true) st fin →
      wpAnyIn (fen ro) 0 P .any ops Q fuel listed a w := by
  have hok' : ∀ i o, ops[i]? = some o → (∀ e ∈ o.after, Region.binds .any e = true → e.on < i) ∧ ∀ x, x < i → ((ancs ops.toList []).getD i 0).testBit x = true ∨ ∃ ox, ops[x]? = some ox ∧ ox.apart ops o = true ∧ ((wrt d x ox || wrt d i o) = true → (mvO ox = true ∧ needs x d.prs = false) ∨ (mvO o = true ∧ needs i d.prs = false) ∨ (x, i) ∈ d.prs) := by
    intro i o hi
    have hlt : i < ops.size := (Array.getElem?_eq_some_iff.1 hi).1
    simp only [drawOk, List.all_eq_true, List.mem_range] at hok
    have := hok i hlt
    rw [hi] at this
    simp only [Bool.and_eq_true, List.all_eq_true, List.mem_range, Array.all_eq_true_iff_forall_mem, Bool.or_eq_true, Bool.not_eq_true', decide_eq_true_eq] at this
    refine ⟨fun e he hb => (this.1 e he).resolve_left (by simp [hb]), fun x hx => (this.2 x hx).imp id fun h => ?_⟩
    split at h
    · rename_i ox hox
      simp only [Bool.and_eq_true, Bool.or_eq_true, Bool.not_eq_true'] at h
      exact ⟨ox, hox, h.1, fun hw => by
        rcases h.2 with (h2 | (h2 | h2)) | h2
        · rw [h2] at hw; simp at hw
        · exact .inl h2
        · exact .inr (.inl h2)
        · exact .inr (.inr (by simpa using h2))⟩
    · simp at h
  -- the first that is not listed is ready
  have hfirst : ∀ (listed : Array Bool), listed.size = ops.size → Region.ready .any ops listed = [] → ((List.range ops.size).filter fun i => !listed.getD i true) = [] := by
    intro listed hsz hr
    have key : ∀ n i, i < n → i < ops.size → listed.getD i true = true := by
      intro n
      induction n with
      | zero => intro i h; omega
      | succ n ih =>
        intro i hi hlt
        rcases Classical.em (listed.getD i true = true) with h | h
        · exact h
        · exfalso
          have hi' : i ∈ Region.ready .any ops listed := by
            rw [mem_ready]
            refine ⟨by simpa using h, ops[i], Array.getElem?_eq_getElem hlt, fun e he hb => ?_⟩
            have hon := (hok' i ops[i] (Array.getElem?_eq_getElem hlt)).1 e he hb
            have := ih e.on (by omega) (by omega)
            rw [Array.getD_eq_getD_getElem?] at this ⊢
            rw [Array.getElem?_eq_getElem (by omega)] at this ⊢
            simpa using this
          rw [hr] at hi'; simp at hi'
    rw [List.filter_eq_nil_iff]
    intro i hi
    rw [List.mem_range] at hi
    simp [key (i + 1) i (by omega) hi]
  intro fuel
  induction fuel with
  | zero =>
    intro listed st E a w hsz hcl hlen hl hI hs h
    have hnil : ((List.range ops.size).filter fun i => !listed.getD i true) = [] := List.length_eq_zero_iff.1 (by omega)
    rw [hnil] at h
    simp only [runI] at h
    subst h
    refine ⟨?_, hQ E a w hs⟩
    have : ∀ i, i ∉ Region.ready .any ops listed := by
      intro i hi
      rw [mem_ready] at hi
      obtain ⟨h0, o, ho, _⟩ := hi
      have hlt : i < ops.size := (Array.getElem?_eq_some_iff.1 ho).1
      have : i ∈ ((List.range ops.size).filter fun i => !listed.getD i true) := List.mem_filter.2 ⟨List.mem_range.2 hlt, by rw [h0]; rfl⟩
      rw [hnil] at this; simp at this
    exact List.eq_nil_iff_forall_not_mem.2 this
  | succ fuel ih =>
    intro listed st E a w hsz hcl hlen hl hI hs h
    refine ⟨fun hr => ?_, fun i hi => ?_⟩
    · rw [hfirst listed hsz hr] at h
      simp only [runI] at h
      subst h
      exact hQ E a w hs
    · rw [mem_ready] at hi
      obtain ⟨h0, o, ho, hpred⟩ := hi
      have hlt : i < ops.size := (Array.getElem?_eq_some_iff.1 ho).1
      have hmem : i ∈ (List.range ops.size).filter fun i => !listed.getD i true := List.mem_filter.2 ⟨List.mem_range.2 hlt, by rw [h0]; rfl⟩
      obtain ⟨r1, r2, hrs⟩ := List.append_of_mem hmem
      have hsorted : ((List.range ops.size).filter fun i => !listed.getD i true).Pairwise (· < ·) := List.Pairwise.filter _ List.pairwise_lt_range
      have hnd : ((List.range ops.size).filter fun i => !listed.getD i true).Nodup := List.Pairwise.imp (fun h => Nat.ne_of_lt h) hsorted
      rw [hrs] at hsorted hnd
      have hlt1 : ∀ x ∈ r1, x < i := fun x hx => (List.pairwise_append.1 hsorted).2.2 x hx i (by simp)
      have hun : ∀ x ∈ r1, listed.getD x true = false := fun x hx => by
        have : x ∈ (List.range ops.size).filter fun i => !listed.getD i true := by rw [hrs]; simp [hx]
        rw [List.mem_filter] at this
        simpa using this.2
      have hunD : ∀ x, listed.getD x true = false → ¬ listed.getD x false = true := fun x hx h => by
        rw [Array.getD_eq_getD_getElem?] at hx h
        cases hh : listed[x]? with
        | none => rw [hh] at hx; simp at hx
        | some b => rw [hh] at hx h; simp at hx h; rw [hx] at h; simp at h
      rw [hrs] at h
      have hnd' := hnd
      rw [List.nodup_append] at hnd'
      have hir1 : i ∉ r1 := fun hx => hnd'.2.2 i hx i (by simp) rfl
      obtain ⟨st', g1, g2⟩ := runI_front hC hL hds ho r1 r2 (fun j => listed.getD j false = true) st ⟨hl, E, a, w, hs⟩ hI (hunD i (by simpa using h0)) hir1 hnd'.1 (fun x hx => hunD x (hun x hx)) (fun x hx => by
        rcases (hok' i o ho).2 x (hlt1 x hx) with hb | ⟨ox, k1, k2, k3⟩
        · exfalso
          have hD := ancs_ok (D := fun j => listed.getD j false = true) (ops := ops.toList) (fun j oj hj hd e he hb => hcl j oj (by simpa using hj) hd e he hb) ops.toList [] (fun j => by simp) (fun _ _ _ h => by simp at h) i o x (by simpa using ho) hpred hb
          have hx1 := hun x hx
          have hxl : x < listed.size := by rw [hsz]; have := hlt1 x hx; omega
          rw [Array.getD_eq_getD_getElem?, Array.getElem?_eq_getElem hxl] at hD hx1
          simp at hD hx1
          rw [hD] at hx1; simp at hx1
        · refine ⟨ox, k1, k2, fun hw => ?_⟩
          rcases k3 hw with h | h | h
          · exact .inl h
          · exact .inr (.inl h)
          obtain ⟨n1, n2⟩ := needs_mem h
          exact .inr (.inr ⟨n1, n2, hRs x i h hlt⟩)) h
      have hno := hI.not_own hL (hunD i (by simpa using h0))
      refine stepI_ok hC hL hl hno (hds i) hs g1 ro fun E' a' w' hs' => ?_
      have hl' : st'.toks.length = L := by
        obtain ⟨_, _, _, _, _, _, _, e, _⟩ := stepI_eff hL (hs.fine hl) g1
        rw [e]; simpa [sets_len] using hl
      have hI' := stepI_inv hL (hs.fine hl) hI g1
      have hset : ((List.range ops.size).filter fun j => !(listed.setIfInBounds i true).getD j true) = r1 ++ r2 := by
        have : ((List.range ops.size).filter fun j => !(listed.setIfInBounds i true).getD j true) = ((List.range ops.size).filter fun j => !listed.getD j true).filter fun j => j != i := by
          rw [List.filter_filter]
          apply List.filter_congr
          intro j hj
          rw [List.mem_range] at hj
          by_cases hji : j = i
          · subst hji
            have : (listed.setIfInBounds j true).getD j true = true := by simp [Array.getD_eq_getD_getElem?, hsz, hj]
            rw [this]; simp
          · have := getD_set_ne (listed := listed) (i := i) (j := j) true (fun h => hji h.symm)
            rw [this]; simp [hji]
        rw [this, hrs, List.filter_append, List.filter_cons]
        have hni : ∀ x ∈ r1 ++ r2, x ≠ i := by
          intro x hx e
          subst e
          rw [List.nodup_append] at hnd
          rcases List.mem_append.1 hx with hx | hx
          · exact hnd.2.2 x hx x (by simp) rfl
          · have := hnd.2.1; rw [List.nodup_cons] at this; exact this.1 hx
        simp only [bne_self_eq_false, Bool.false_eq_true, if_false]
        rw [← List.filter_append, List.filter_eq_self]
        intro x hx; simpa using hni x hx
      have hDD : ∀ j, (listed.getD j false = true ∨ j = i) → (listed.setIfInBounds i true).getD j false = true := fun j hj => by
        by_cases e : j = i
        · subst e; simp [Array.getD_eq_getD_getElem?, hsz, hlt]
        · rw [getD_set_ne false (fun h => e h.symm)]; exact hj.resolve_right e
      refine ih (listed.setIfInBounds i true) st' E' a' w' (by simpa using hsz) (fun j oj hj hd e he hb => ?_) ?_ hl' (fun y t ht => (hI' y t ht).imp id fun ⟨j, h1, h2⟩ => ⟨j, hDD j h1, h2⟩) hs' (by rw [hset]; exact g2)
      · by_cases hji : j = i
        · subst hji
          rw [ho] at hj; obtain rfl := Option.some.inj hj
          exact getD_set_true (hpred e he hb)
        · rw [getD_set_ne false (fun h => hji h.symm)] at hd
          exact getD_set_true (hcl j oj hj hd e he hb)
      · rw [hset]; rw [hrs] at hlen; simp at hlen ⊢; omega

theorem getD_drop0 (cs : List Nat) (i : Nat) : (cs.drop i).headD 0 = cs.getD i 0 := by
  rw [List.headD_eq_head?_getD, List.head?_drop, List.getD_eq_getElem?_getD]

theorem chk_ok {tr : List (Option (List Nat))} {i : Nat} {R : Option (List Nat)} : ∀ {prs : List (Nat × Nat)}, chk tr i R prs = true → ∀ x, (x, i) ∈ prs → ∃ a b, tr.getD x none = some a ∧ R = some b ∧ meets a b = false
  | [], _, x, h => by simp at h
  | (y, j) :: l, hc, x, h => by
    simp only [chk, Bool.and_eq_true] at hc
    rcases List.mem_cons.1 h with h | h
    · simp only [Prod.mk.injEq] at h
      obtain ⟨rfl, rfl⟩ := h
      have := hc.1
      simp only [if_true] at this
      split at this
      · rename_i a b h1; exact ⟨a, b, h1, rfl, by simpa using this⟩
      · simp at this
    · exact chk_ok hc.2 x h

/-- The run in the order of the text, as a chain of steps. -/
theorem rrunD_runI {base : Nat} : ∀ (l : List Oper) (i : Nat) (tr : List (Option (List Nat))) (st fin : ASt), (∀ j, l[j]? = ops[i + j]?) → tr.length = i → rrunD C ops.toList d L l i (offI base d i) (d.cs.drop i) tr st = some fin →
    ∃ trf : List (Option (List Nat)), (∀ k, k < i → trf.getD k none = tr.getD k none) ∧ runI C ops d base L (fun k => trf.getD k none) (List.range' i l.length) st fin ∧
      ∀ x j, (x, j) ∈ d.prs → i ≤ j → j < i + l.length → ∃ a b, trf.getD x none = some a ∧ trf.getD j none = some b ∧ meets a b = false
  | [], i, tr, st, fin, _, _, h => by
    simp only [rrunD, Option.some.injEq] at h
    exact ⟨tr, fun _ _ => rfl, by simpa [runI] using h, fun x j _ h1 h2 => by simp at h2; omega⟩
  | o :: l, i, tr, st, fin, hl, htr, h => by
    have hi : ops[i]? = some o := by have := hl 0; simp at this; exact this.symm
    have hl' : ∀ j, l[j]? = ops[i + 1 + j]? := fun j => by have := hl (j + 1); simp at this; rw [this]; congr 1; omega
    simp only [rrunD, getD_drop0] at h
    split at h
    rotate_left
    · simp at h
    rename_i st' hst
    have hoff : offI base d i + d.cs.getD i 0 = offI base d (i + 1) := by unfold offI; rw [sum_take]; omega
    rw [List.tail_drop, hoff] at h
    have hcons : List.range' i (o :: l).length = i :: List.range' (i + 1) l.length := by rw [List.length_cons, List.range'_succ]
    split at h
    · rename_i hn
      split at h
      rotate_left
      · simp at h
      rename_i hchk
      obtain ⟨trf, h1, h2, h3⟩ := rrunD_runI l (i + 1) _ st' fin hl' (by simp [htr]) h
      have hri : trf.getD i none = stR st.slots o.op (guardOk ops.toList st.slots o) := by
        rw [h1 i (by omega), List.getD_eq_getElem?_getD, List.getElem?_append_right (by omega), htr]; simp
      have hrk : ∀ k, k < i → trf.getD k none = tr.getD k none := fun k hk => by
        rw [h1 k (by omega), List.getD_eq_getElem?_getD, List.getElem?_append_left (by omega), List.getD_eq_getElem?_getD]
      refine ⟨trf, hrk, ?_, fun x j hx hj1 hj2 => ?_⟩
      · rw [hcons]
        exact ⟨st', ⟨o, hi, hst, fun _ => hri.symm⟩, h2⟩
      · by_cases e : j = i
        · subst e
          obtain ⟨a, b, k1, k2, k3⟩ := chk_ok hchk x hx
          refine ⟨a, b, ?_, by rw [hri]; exact k2, k3⟩
          have hxl : x < tr.length := by
            rcases Nat.lt_or_ge x tr.length with h | h
            · exact h
            · rw [List.getD_eq_getElem?_getD, List.getElem?_eq_none h] at k1; simp at k1
          rw [hrk x (by omega)]; exact k1
        · exact h3 x j hx (by omega) (by simp at hj2; omega)
    · rename_i hn
      obtain ⟨trf, h1, h2, h3⟩ := rrunD_runI l (i + 1) _ st' fin hl' (by simp [htr]) h
      have hrk : ∀ k, k < i → trf.getD k none = tr.getD k none := fun k hk => by
        rw [h1 k (by omega), List.getD_eq_getElem?_getD, List.getElem?_append_left (by omega), List.getD_eq_getElem?_getD]
      refine ⟨trf, hrk, ?_, fun x j hx hj1 hj2 => ?_⟩
      · rw [hcons]
        exact ⟨st', ⟨o, hi, hst, fun hn' => (hn hn').elim⟩, h2⟩
      · by_cases e : j = i
        · subst e; exact (hn (needs_mem hx).2).elim
        · exact h3 x j hx (by omega) (by simp at hj2; omega)

theorem frm_drew (w : World) : Frm (fun _ => False) w { w with drawn := w.drawn + 1 } := ⟨rfl, rfl, rfl, Nat.le_refl _, fun _ _ _ => rfl⟩

theorem draw_ok (hC : C.Ok P) {st fin : ASt} (hds : ∀ (j : Nat) (oj : Oper), ops[j]? = some oj → ∀ e, oj.dst = some e → e ∉ U.idx) (hok : drawOk ops d = true) (hs : SR U w0 st E a w) (h : rdraw C ops.toList d st = some fin) {Q : Exit → Act → World → Prop} (ro : Option Nat) (hQ : ∀ E' a' w', SR U w0 fin E' a' w' → Q .normal a' w') :
    wpAnyIn (fen ro) 0 P .any ops Q ops.size (Array.replicate ops.size false) a { w with drawn := w.drawn + 1 } := by
  unfold rdraw at h
  obtain ⟨E1, hs1⟩ := (hs.grow (frm_drew w)).pad d.cs.sum
  obtain ⟨trf, _, h2, h3⟩ := rrunD_runI (C := C) (ops := ops) (d := d) (L := st.toks.length + d.cs.sum) (base := st.toks.length) ops.toList 0 [] _ fin (fun j => by simp) rfl (by simpa [offI] using h)
  have hfil : ((List.range ops.size).filter fun i => !(Array.replicate ops.size false).getD i true) = List.range ops.size := by
    rw [List.filter_eq_self]
    intro i hi
    rw [List.mem_range] at hi
    simp [Array.getD_eq_getD_getElem?, hi]
  refine wpAny_ok (C := C) (d := d) (base := st.toks.length) (L := st.toks.length + d.cs.sum) (Rs := fun k => trf.getD k none) hC rfl hds hok (fun x i hx hi => h3 x i hx (by omega) (by simpa using hi)) ro hQ ops.size _ _ E1 a _ (by simp) (fun j oj _ hd => ?_) (by rw [hfil]; simp) (by simp) (fun y t ht => .inl ?_) hs1 ?_
  · rw [Array.getD_eq_getD_getElem?] at hd
    simp [Array.getElem?_replicate] at hd
    split at hd <;> simp at hd
  · exact inRange_refs _ (hs.inRange y) t ht
  · rw [hfil, List.range_eq_range']
    simpa using h2

end
end Go.Proofs.YtkfgmpmeipilnaaDoor.Ax

/-
  From operations to code: what a piece of code does to the abstract state. No condition.
-/
namespace Go.Proofs.YtkfgmpmeipilnaaDoor.Ax
open Go Go.RowKit

/-- Every region whose order is open is of the kind that any order serves; no slot of L is written. -/
def codeOk (dt : List (Nat × RD)) (L : List Nat) : Code → Bool
  | .region id ops draw => (!draw || drawOk ops (dtGet dt id)) && ops.all fun o => match o.dst with | some d => !L.contains d | none => true
  | .seq x y => codeOk dt L x && codeOk dt L y
  | .cond _ x y => codeOk dt L x && codeOk dt L y
  | .block _ x => codeOk dt L x
  | .loop x => codeOk dt L x
  | .rangeFunc _ _ x y => codeOk dt L x && codeOk dt L y
  | .scope x => codeOk dt L x
  | _ => true

/-- From a state st the code c comes to an end and a state of Q. -/
def Tr (P : Program) (U : Ld) (w0 : World) (c : Code) (st : ASt) (Q : Exit → ASt → Prop) : Prop :=
  codeOk U.dt U.idx c = true → ∀ (E : Env) (a : Act) (w : World), SR U w0 st E a w → ∀ K : Exit → Act → World → Prop, (∀ e st' E' a' w', Q e st' → SR U w0 st' E' a' w' → K e a' w') → c.wpIn (fen U.ro) 0 P K a w

/-- st' says no more than st. -/
def Le (U : Ld) (w0 : World) (st st' : ASt) : Prop := ∀ E a w, SR U w0 st E a w → ∃ E', SR U w0 st' E' a w

section
variable {P : Program} {C : Ctx} {U : Ld} {w0 : World} {st : ASt} {Q : Exit → ASt → Prop}

theorem Tr.weak {c : Code} {Q' : Exit → ASt → Prop} (h : Tr P U w0 c st Q) (hq : ∀ e s, Q e s → Q' e s) : Tr P U w0 c st Q' :=
  fun hc E a w hs K hK => h hc E a w hs K fun e s E' a' w' q => hK e s E' a' w' (hq e s q)

theorem Tr.pre {c : Code} {st' : ASt} (h : Tr P U w0 c st' Q) (hl : Le U w0 st st') : Tr P U w0 c st Q :=
  fun hc E a w hs K hK => by obtain ⟨E', hs'⟩ := hl E a w hs; exact h hc E' a w hs' K hK

theorem tr_skip (h : Q .normal st) : Tr P U w0 .skip st Q := fun _ E a w hs _ hK => wpIn_skip (hK _ _ E a w h hs)
theorem tr_exit {id : Nat} (h : Q (.exit id) st) : Tr P U w0 (.exit id) st Q := fun _ E a w hs _ hK => wpIn_exit (hK _ _ E a w h hs)
theorem tr_ret (h : Q .ret st) : Tr P U w0 .ret st Q := fun _ E a w hs _ hK => wpIn_ret (hK _ _ E a w h hs)

/-- What comes behind. -/
def andThen (N : ASt → Prop) (Q : Exit → ASt → Prop) : Exit → ASt → Prop
  | .normal, s => N s
  | e, s => Q e s

theorem tr_seq {x y : Code} (h : Tr P U w0 x st (andThen (fun s => Tr P U w0 y s Q) Q)) : Tr P U w0 (.seq x y) st Q := by
  intro hc E a w hs K hK
  simp only [codeOk, Bool.and_eq_true] at hc
  refine wpIn_seq (h hc.1 E a w hs _ fun e s E' a' w' hq hs' => ?_)
  cases e with
  | normal => exact hq hc.2 E' a' w' hs' K hK
  | _ => exact hK _ _ E' a' w' hq hs'

theorem tr_cond {c : Operand} {x y : Code} {t : Bool} (he : ev st.slots c = .v (.bool t)) (hx : t = true → Tr P U w0 x st Q) (hy : t = false → Tr P U w0 y st Q) : Tr P U w0 (.cond c x y) st Q := by
  intro hc E a w hs K hK
  simp only [codeOk, Bool.and_eq_true] at hc
  have := SRep_v (hs.ev c) he
  exact wpIn_cond_split this (fun ht => hx ht hc.1 E a w hs K hK) (fun ht => hy ht hc.2 E a w hs K hK)

def inBlock (id : Nat) (Q : Exit → ASt → Prop) : Exit → ASt → Prop
  | .exit id', s => if id' = id then Q .normal s else Q (.exit id') s
  | e, s => Q e s

theorem tr_block {id : Nat} {c : Code} (h : Tr P U w0 c st (inBlock id Q)) : Tr P U w0 (.block id c) st Q := by
  intro hc E a w hs K hK
  simp only [codeOk] at hc
  refine wpIn_block (h hc E a w hs _ fun e s E' a' w' hq hs' => ?_)
  cases e with
  | exit id' =>
    simp only [inBlock, Exit.inBlock] at hq ⊢
    split
    · rename_i h; rw [if_pos h] at hq; exact hK _ _ E' a' w' hq hs'
    · rename_i h; rw [if_neg h] at hq; exact hK _ _ E' a' w' hq hs'
  | _ => exact hK _ _ E' a' w' hq hs'

/-- The second list says no more than the first. -/
def slotsLe : List AV → List AV → Prop
  | [], [] => True
  | a :: al, b :: bs => (b = .junk ∨ a = b) ∧ slotsLe al bs
  | _, _ => False

def sub (s s' : ASt) : Prop := s'.toks = s.toks ∧ slotsLe s.slots s'.slots

theorem slotsLe_get : ∀ {l l' : List AV}, slotsLe l l' → l'.length = l.length ∧ ∀ (i : Nat) (x : AV), l'[i]? = some x → x = .junk ∨ l[i]? = some x
  | [], [], _ => ⟨rfl, fun i x h => by simp at h⟩
  | a :: al, b :: bs, h => by
    obtain ⟨h1, h2⟩ := h
    obtain ⟨g1, g2⟩ := slotsLe_get h2
    refine ⟨by simp [g1], fun i x hx => ?_⟩
    cases i with
    | zero =>
      simp at hx; subst hx
      rcases h1 with h1 | h1
      · exact .inl h1
      · exact .inr (by simp [h1])
    | succ i => simpa using g2 i x (by simpa using hx)
  | [], _ :: _, h => h.elim
  | _ :: _, [], h => h.elim

theorem le_sub {s s' : ASt} (h : sub s s') : Le U w0 s s' := by
  intro E a w hs
  obtain ⟨h1, h2⟩ := h
  obtain ⟨g1, g2⟩ := slotsLe_get h2
  refine ⟨E, hs.defers, by rw [g1]; exact hs.size, fun i x hi => ?_, hs.flt, by rw [h1]; exact hs.tok, hs.slt, hs.sep, hs.frame, hs.pin⟩
  rw [h1]
  rcases g2 i x hi with rfl | hx
  · simp [SRep]
  · exact hs.slot i x hx

/-- A loop: its states are those of a family, its measure goes down. -/
theorem tr_loop {c : Code} {α : Type} (I : α → ASt) (μ : α → Nat) (x0 : α) (h0 : Le U w0 st (I x0))
    (hstep : ∀ x, Tr P U w0 c (I x) (andThen (fun s => ∃ y, Le U w0 s (I y) ∧ μ y < μ x) Q)) : Tr P U w0 (.loop c) st Q := by
  refine Tr.pre (st' := I x0) ?_ h0
  intro hc E a w hs K hK
  simp only [codeOk] at hc
  have key : ∀ (n : Nat) (x : α), μ x < n → ∀ (E : Env) (a : Act) (w : World), SR U w0 (I x) E a w → Code.roundsIn (fen U.ro) 0 P c K n a w := by
    intro n
    induction n with
    | zero => intro x h; omega
    | succ n ih =>
      intro x hx E a w hs
      simp only [Code.roundsIn]
      refine hstep x hc E a w hs _ fun e s E' a' w' hq hs' => ?_
      cases e with
      | normal =>
        obtain ⟨y, hsy, hy⟩ := hq
        obtain ⟨E'', hs''⟩ := hsy E' a' w' hs'
        exact ih y (by omega) E'' a' w' hs''
      | _ => exact hK _ _ E' a' w' hq hs'
  exact wpIn_loop_rounds (μ x0 + 1) (key _ x0 (Nat.lt_succ_self _) E a w hs)

/-- A region's run. -/
def regrun (C : Ctx) (dt : List (Nat × RD)) (id : Nat) (ops : List Oper) : Bool → ASt → Option ASt
  | false, st => rrun C ops ops st
  | true, st => rdraw C ops (dtGet dt id) st
theorem regrun_false {dt : List (Nat × RD)} {id : Nat} {ops : List Oper} {st : ASt} : regrun C dt id ops false st = rrun C ops ops st := rfl
theorem regrun_true {dt : List (Nat × RD)} {id : Nat} {ops : List Oper} {st : ASt} : regrun C dt id ops true st = rdraw C ops (dtGet dt id) st := rfl

theorem tr_region (hC : C.Ok P) (hm : P.follows .mixedOrders = true) {id : Nat} {ops : Array Oper} {draw : Bool} {fin : ASt} (h : regrun C U.dt id ops.toList draw st = some fin) (hq : Q .normal fin) : Tr P U w0 (.region id ops draw) st Q := by
  intro hc E a w hs K hK
  simp only [codeOk, Bool.and_eq_true] at hc
  have hds : ∀ (j : Nat) (oj : Oper), ops[j]? = some oj → ∀ e, oj.dst = some e → e ∉ U.idx := by
    intro j oj hj e he
    have := (Array.all_eq_true_iff_forall_mem.1 hc.2) oj (Array.mem_of_getElem? hj)
    rw [he] at this
    simpa using this
  replace hc := hc.1
  cases draw with
  | false =>
    rw [regrun_false] at h
    refine wpIn_region ?_
    have := rrun_ok hC hds (Q := K) (ops := ops) U.ro (fun E' a' w' hs' => hK _ _ E' a' w' hq hs') ops.toList 0 st E a w (fun j => by simp) hs h
    rw [List.range_eq_range']
    simpa using this
  | true =>
    rw [regrun_true] at h
    simp only [Bool.not_true, Bool.false_or] at hc
    exact wpIn_region_any hm (draw_ok hC hds hc hs h U.ro fun E' a' w' hs' => hK _ _ E' a' w' hq hs')

end
end Go.Proofs.YtkfgmpmeipilnaaDoor.Ax

/-
  Slots that are read no more are forgotten; rows to which nothing leads are let go; the rest are numbered anew. No condition.
-/
namespace Go.Proofs.YtkfgmpmeipilnaaDoor.Ax
open Go Go.RowKit

/-- Each once, in the order in which they come. -/
def once : List Nat → List Nat → List Nat
  | acc, [] => acc
  | acc, t :: l => if acc.contains t then once acc l else once (acc ++ [t]) l

def place : List Nat → Nat → Nat
  | [], _ => 0
  | t :: l, x => if t = x then 0 else place l x + 1

def keep (live : List Bool) (slots : List AV) : List AV :=
  match live, slots with
  | _, [] => []
  | [], _ :: ss => .junk :: keep [] ss
  | b :: bs, s :: ss => (if b then s else .junk) :: keep bs ss

def clean (live : List Bool) (st : ASt) : ASt :=
  let sl := keep live st.slots
  let p := once [] (refsL sl)
  ⟨renL (place p) sl, p.map fun t => st.toks.getD t ⟨true, .junk⟩⟩

theorem once_mem : ∀ (l acc : List Nat) (t : Nat), t ∈ once acc l ↔ t ∈ acc ∨ t ∈ l
  | [], acc, t => by simp [once]
  | x :: l, acc, t => by
    simp only [once]
    split
    · rename_i h
      rw [once_mem l acc t]
      have : x ∈ acc := by simpa using h
      constructor
      · rintro (h | h)
        · exact .inl h
        · exact .inr (by simp [h])
      · rintro (h | h)
        · exact .inl h
        · rcases List.mem_cons.1 h with rfl | h
          · exact .inl this
          · exact .inr h
    · rw [once_mem l (acc ++ [x]) t]; simp [or_assoc]

theorem once_nodup : ∀ (l acc : List Nat), acc.Nodup → (once acc l).Nodup
  | [], acc, h => by simpa [once] using h
  | x :: l, acc, h => by
    simp only [once]
    split
    · exact once_nodup l acc h
    · rename_i hn
      refine once_nodup l _ ?_
      rw [List.nodup_append]
      refine ⟨h, by simp, ?_⟩
      intro a ha b hb e
      simp at hb; subst hb; subst e
      simp at hn; exact hn ha

theorem place_ok : ∀ (p : List Nat) (t : Nat), t ∈ p → p[place p t]? = some t
  | [], t, h => by simp at h
  | x :: p, t, h => by
    simp only [place]
    split
    · rename_i e; subst e; simp
    · rename_i hne
      rcases List.mem_cons.1 h with rfl | h
      · exact (hne rfl).elim
      · simpa using place_ok p t h

theorem keep_get : ∀ (live : List Bool) (slots : List AV) (i : Nat) (x : AV), (keep live slots)[i]? = some x → x = .junk ∨ slots[i]? = some x
  | _, [], i, x, h => by simp [keep] at h
  | [], s :: ss, i, x, h => by
    simp only [keep] at h
    cases i with
    | zero => simp at h; exact .inl h.symm
    | succ i => simpa using keep_get [] ss i x (by simpa using h)
  | b :: bs, s :: ss, i, x, h => by
    simp only [keep] at h
    cases i with
    | zero =>
      simp at h
      cases b with
      | true => simp at h; exact .inr (by simp [h])
      | false => simp at h; exact .inl h.symm
    | succ i => simpa using keep_get bs ss i x (by simpa using h)

theorem keep_len : ∀ (live : List Bool) (slots : List AV), (keep live slots).length = slots.length
  | _, [] => by simp [keep]
  | [], s :: ss => by simp [keep, keep_len [] ss]
  | b :: bs, s :: ss => by simp [keep, keep_len bs ss]

theorem renL_map (f : Nat → Nat) : ∀ (l : List AV), renL f l = l.map (ren f)
  | [] => rfl
  | c :: cs => by simp [renL, renL_map f cs]

theorem refsL_mem : ∀ (l : List AV) (x : AV), x ∈ l → ∀ t ∈ refs x, t ∈ refsL l
  | c :: cs, x, h, t, ht => by
    simp only [refsL, List.mem_append]
    rcases List.mem_cons.1 h with rfl | h
    · exact .inl ht
    · exact .inr (refsL_mem cs x h t ht)

theorem le_clean {U : Ld} {w0 : World} {st : ASt} (live : List Bool) : Le U w0 st (clean live st) := by
  intro E a w hs
  let sl := keep live st.slots
  let p := once [] (refsL sl)
  have hp : p.Nodup := once_nodup _ _ List.nodup_nil
  let E' : Env := { F := E.F, hd := fun i => E.hd (p.getD i 0), S := fun i b => ∃ t, p[i]? = some t ∧ E.S t b }
  refine ⟨E', hs.defers, ?_, fun i x hi => ?_, hs.flt, fun i tk hi => ?_, fun i b hb => ?_, fun i i' b hne hb hb' => ?_, hs.frame, hs.pin⟩
  · simp [clean, renL_map, keep_len, hs.size]
  · simp only [clean, renL_map, List.getElem?_map, Option.map_eq_some_iff] at hi
    obtain ⟨x0, hx0, rfl⟩ := hi
    have hmem : x0 ∈ sl := List.mem_of_getElem? hx0
    rcases keep_get live st.slots i x0 hx0 with rfl | h0
    · simp [ren, SRep]
    · refine SRep.ren (E := E) (E' := E') (toks := st.toks) rfl x0 _ (hs.slot i x0 h0) fun t ht hlt => ?_
      have htp : t ∈ p := (once_mem _ _ _).2 (.inr (refsL_mem sl x0 hmem t ht))
      have hpl := place_ok p t htp
      refine ⟨?_, ?_⟩
      · show (p.map fun t => st.toks.getD t ⟨true, .junk⟩)[place p t]? = _
        rw [List.getElem?_map, hpl]
        simp [List.getD_eq_getElem?_getD, List.getElem?_eq_getElem hlt]
      · show E.hd (p.getD (place p t) 0) = E.hd t
        rw [List.getD_eq_getElem?_getD, hpl]; rfl
  · change (p.map fun t => st.toks.getD t ⟨true, .junk⟩)[i]? = some tk at hi
    rw [List.getElem?_map, Option.map_eq_some_iff] at hi
    obtain ⟨t, ht, rfl⟩ := hi
    by_cases hlt : t < st.toks.length
    · have htk : st.toks[t]? = some (st.toks.getD t ⟨true, .junk⟩) := by simp [List.getD_eq_getElem?_getD, List.getElem?_eq_getElem hlt]
      rcases hs.tok t _ htk with h | ⟨nl, sz, es, h1, h2⟩
      · exact .inl h
      · refine .inr ⟨nl, sz, es, h1, ?_⟩
        have e1 : E'.hd i = E.hd t := by show E.hd (p.getD i 0) = E.hd t; rw [List.getD_eq_getElem?_getD, ht]; rfl
        rw [e1]
        exact h2.weak (fun _ h => h) (fun b hb => ⟨t, ht, hb⟩) (Agree.refl _ _)
    · exact .inl (by rw [List.getD_eq_getElem?_getD, List.getElem?_eq_none (by omega)]; rfl)
  · obtain ⟨t, _, hb⟩ := hb
    exact hs.slt t b hb
  · obtain ⟨t, ht, hb⟩ := hb
    obtain ⟨t', ht', hb'⟩ := hb'
    refine hs.sep t t' b (fun e => ?_) hb hb'
    subst e
    exact hne ((List.getElem?_inj (List.getElem?_eq_some_iff.1 ht).1 hp).1 (ht.trans ht'.symm))

/-- The code's run, step by step; at a loop it stands. -/
def awp (P : Program) (C : Ctx) (live : List Bool) (U : Ld) (w0 : World) : Code → ASt → (Exit → ASt → Prop) → Prop
  | .skip, st, Q => Q .normal st
  | .region id ops draw, st, Q => ∃ fin, regrun C U.dt id ops.toList draw st = some fin ∧ Q .normal (clean live fin)
  | .seq x y, st, Q => awp P C live U w0 x st (andThen (fun s => awp P C live U w0 y s Q) Q)
  | .cond c x y, st, Q => ∃ t, ev st.slots c = .v (.bool t) ∧ (t = true → awp P C live U w0 x st Q) ∧ (t = false → awp P C live U w0 y st Q)
  | .block id x, st, Q => awp P C live U w0 x st (inBlock id Q)
  | .exit id, st, Q => Q (.exit id) st
  | .ret, st, Q => Q .ret st
  | c, st, Q => Tr P U w0 c st Q

theorem andThen_mono {N N' : ASt → Prop} {Q : Exit → ASt → Prop} (h : ∀ s, N s → N' s) : ∀ e s, andThen N Q e s → andThen N' Q e s
  | .normal, s, k => h s k
  | .exit _, _, k => k
  | .goto _, _, k => k
  | .ret, _, k => k
  | .panic _, _, k => k
  | .outgrown, _, k => k

theorem tr_awp {P : Program} {C : Ctx} {live : List Bool} {U : Ld} {w0 : World} (hC : C.Ok P) (hm : P.follows .mixedOrders = true) : ∀ (c : Code) (st : ASt) (Q : Exit → ASt → Prop), awp P C live U w0 c st Q → Tr P U w0 c st Q
  | .skip, st, Q, h => tr_skip h
  | .region id ops draw, st, Q, h => by
    obtain ⟨fin, h1, h2⟩ := h
    intro hc E a w hs K hK
    refine tr_region (Q := fun e s => e = .normal ∧ s = fin) hC hm h1 ⟨rfl, rfl⟩ hc E a w hs K fun e s E' a' w' hq hs' => ?_
    obtain ⟨rfl, rfl⟩ := hq
    obtain ⟨E'', hs''⟩ := le_clean live E' a' w' hs'
    exact hK _ _ E'' a' w' h2 hs''
  | .seq x y, st, Q, h => tr_seq ((tr_awp hC hm x st _ h).weak (andThen_mono fun s hs => tr_awp hC hm y s Q hs))
  | .cond c x y, st, Q, h => by
    obtain ⟨t, h1, h2, h3⟩ := h
    exact tr_cond h1 (fun ht => tr_awp hC hm x st Q (h2 ht)) (fun ht => tr_awp hC hm y st Q (h3 ht))
  | .block id x, st, Q, h => tr_block (tr_awp hC hm x st _ h)
  | .exit id, st, Q, h => tr_exit h
  | .ret, st, Q, h => tr_ret h
  | .loop _, _, _, h => h
  | .rangeFunc _ _ _ _, _, _, h => h
  | .scope _, _, _, h => h
  | .label _, _, _, h => h
  | .goto _, _, _, h => h
  | .refuse _, _, _, h => h

section
variable {P : Program} {C : Ctx} {live : List Bool} {U : Ld} {w0 : World}

/-- What is left: the code y, then Q. -/
def contS (P : Program) (C : Ctx) (live : List Bool) (U : Ld) (w0 : World) (y : Code) (Q : Exit → ASt → Prop) : Exit → ASt → Prop := andThen (fun s => awp P C live U w0 y s Q) Q

/-- The region's operations, then Q at the cleaned state. -/
def regS (live : List Bool) (Q : Exit → ASt → Prop) : Option ASt → Prop
  | some fin => Q .normal (clean live fin)
  | none => False

def condS (P : Program) (C : Ctx) (live : List Bool) (U : Ld) (w0 : World) (x y : Code) (st : ASt) (Q : Exit → ASt → Prop) : AV → Prop
  | .v (.bool t) => (t = true → awp P C live U w0 x st Q) ∧ (t = false → awp P C live U w0 y st Q)
  | _ => False

theorem awp_skip {st : ASt} {Q : Exit → ASt → Prop} : awp P C live U w0 .skip st Q = Q .normal st := rfl
theorem awp_seq {x y : Code} {st : ASt} {Q : Exit → ASt → Prop} : awp P C live U w0 (.seq x y) st Q = awp P C live U w0 x st (contS P C live U w0 y Q) := rfl
theorem awp_block {id : Nat} {x : Code} {st : ASt} {Q : Exit → ASt → Prop} : awp P C live U w0 (.block id x) st Q = awp P C live U w0 x st (inBlock id Q) := rfl
theorem awp_exit {id : Nat} {st : ASt} {Q : Exit → ASt → Prop} : awp P C live U w0 (.exit id) st Q = Q (.exit id) st := rfl
theorem awp_ret {st : ASt} {Q : Exit → ASt → Prop} : awp P C live U w0 .ret st Q = Q .ret st := rfl
theorem awp_loop {x : Code} {st : ASt} {Q : Exit → ASt → Prop} : awp P C live U w0 (.loop x) st Q = Tr P U w0 (.loop x) st Q := rfl
theorem awp_rangeF {g : Operand} {ps : Array Tmp} {x y : Code} {st : ASt} {Q : Exit → ASt → Prop} : awp P C live U w0 (.rangeFunc g ps x y) st Q = Tr P U w0 (.rangeFunc g ps x y) st Q := rfl
theorem awp_region {id : Nat} {ops : Array Oper} {dr : Bool} {st : ASt} {Q : Exit → ASt → Prop} : awp P C live U w0 (.region id ops dr) st Q = regS live Q (regrun C U.dt id ops.toList dr st) := by
  apply propext
  simp only [awp]
  constructor
  · rintro ⟨fin, h1, h2⟩; rw [h1]; exact h2
  · intro h
    cases hr : regrun C U.dt id ops.toList dr st with
    | none => rw [hr] at h; exact h.elim
    | some fin => rw [hr] at h; exact ⟨fin, rfl, h⟩
theorem awp_cond {c : Operand} {x y : Code} {st : ASt} {Q : Exit → ASt → Prop} : awp P C live U w0 (.cond c x y) st Q = condS P C live U w0 x y st Q (ev st.slots c) := by
  apply propext
  simp only [awp]
  constructor
  · rintro ⟨t, h1, h2⟩; rw [h1]; exact h2
  · intro h
    generalize hv : ev st.slots c = v at h
    unfold condS at h
    split at h
    · exact ⟨_, rfl, h⟩
    · exact h.elim

theorem contS_normal {y : Code} {s : ASt} {Q : Exit → ASt → Prop} : contS P C live U w0 y Q .normal s = awp P C live U w0 y s Q := rfl
theorem contS_exit {y : Code} {id : Nat} {s : ASt} {Q : Exit → ASt → Prop} : contS P C live U w0 y Q (.exit id) s = Q (.exit id) s := rfl
theorem contS_ret {y : Code} {s : ASt} {Q : Exit → ASt → Prop} : contS P C live U w0 y Q .ret s = Q .ret s := rfl
theorem inB_normal {id : Nat} {s : ASt} {Q : Exit → ASt → Prop} : inBlock id Q .normal s = Q .normal s := rfl
theorem inB_exit {id id' : Nat} {s : ASt} {Q : Exit → ASt → Prop} : inBlock id Q (.exit id') s = if id' = id then Q .normal s else Q (.exit id') s := rfl
theorem inB_ret {id : Nat} {s : ASt} {Q : Exit → ASt → Prop} : inBlock id Q .ret s = Q .ret s := rfl

theorem Le.trans {s1 s2 s3 : ASt} (h : Le U w0 s1 s2) (h' : Le U w0 s2 s3) : Le U w0 s1 s3 := fun E a w hs => by
  obtain ⟨E', hs'⟩ := h E a w hs
  exact h' E' a w hs'

theorem regS_some {Q : Exit → ASt → Prop} {s : ASt} : regS live Q (some s) = Q .normal (clean live s) := rfl
theorem regS_none {Q : Exit → ASt → Prop} : regS live Q none = False := rfl
theorem condS_bool {x y : Code} {st : ASt} {Q : Exit → ASt → Prop} {t : Bool} : condS P C live U w0 x y st Q (.v (.bool t)) = ((t = true → awp P C live U w0 x st Q) ∧ (t = false → awp P C live U w0 y st Q)) := rfl

def bindS (f : ASt → Option ASt) : Option ASt → Option ASt
  | some s => f s
  | none => none
theorem bindS_some {f : ASt → Option ASt} {s : ASt} : bindS f (some s) = f s := rfl
theorem rrun_nil {ops : List Oper} {st : ASt} : rrun C ops [] st = some st := rfl
theorem rrun_cons {ops : List Oper} {o : Oper} {l : List Oper} {st : ASt} : rrun C ops (o :: l) st = bindS (rrun C ops l) (rstep C ops o st) := by
  simp only [rrun]
  cases rstep C ops o st <;> rfl

def outD (d : Option Nat) : Option Out → Option ASt
  | some r => some ⟨putD r.slots d r.val, r.toks⟩
  | none => none
theorem outD_some {d : Option Nat} {x : AV} {slots : List AV} {toks : List Tok} : outD d (some ⟨x, slots, toks⟩) = some ⟨putD slots d x, toks⟩ := rfl
def stepG (y : Option ASt) (n : ASt) : Option Bool → Option ASt
  | some g => if g then y else some n
  | none => none
theorem stepG_some {y : Option ASt} {n : ASt} {g : Bool} : stepG y n (some g) = if g then y else some n := rfl
theorem rstep_eq {ops : List Oper} {o : Oper} {slots : List AV} {toks : List Tok} : rstep C ops o ⟨slots, toks⟩ = stepG (outD o.dst (aop C o.op slots toks)) ⟨putD slots o.dst (.tup []), toks⟩ (guardOk ops slots o) := by
  unfold rstep
  simp only []
  cases guardOk ops slots o with
  | none => rfl
  | some g => simp only [stepG]; cases aop C o.op slots toks <;> rfl

/-- The rest of a region whose order is open. -/
def contD (C : Ctx) (ops : List Oper) (d : RD) (L : Nat) (o : Oper) (l : List Oper) (i off : Nat) (cs : List Nat) (tr : List (Option (List Nat))) (slots : List AV) (st' : ASt) : Option ASt :=
  if needs i d.prs then (if chk tr i (stR slots o.op (guardOk ops slots o)) d.prs then rrunD C ops d L l (i + 1) (off + cs.headD 0) cs.tail (tr ++ [stR slots o.op (guardOk ops slots o)]) st' else none)
    else rrunD C ops d L l (i + 1) (off + cs.headD 0) cs.tail (tr ++ [none]) st'
theorem contD_eq {ops : List Oper} {prs : List (Nat × Nat)} {cs0 wr : List Nat} {L : Nat} {o : Oper} {l : List Oper} {i off : Nat} {cs : List Nat} {tr : List (Option (List Nat))} {slots : List AV} {st' : ASt} : contD C ops ⟨prs, cs0, wr⟩ L o l i off cs tr slots st' =
    if needs i prs then (if chk tr i (stR slots o.op (guardOk ops slots o)) prs then rrunD C ops ⟨prs, cs0, wr⟩ L l (i + 1) (off + cs.headD 0) cs.tail (tr ++ [stR slots o.op (guardOk ops slots o)]) st' else none)
    else rrunD C ops ⟨prs, cs0, wr⟩ L l (i + 1) (off + cs.headD 0) cs.tail (tr ++ [none]) st' := rfl
theorem rrunD_nil {ops : List Oper} {d : RD} {L i off : Nat} {cs : List Nat} {tr : List (Option (List Nat))} {st : ASt} : rrunD C ops d L [] i off cs tr st = some st := rfl
theorem rrunD_cons {ops : List Oper} {prs : List (Nat × Nat)} {cs0 wr : List Nat} {L : Nat} {o : Oper} {l : List Oper} {i off : Nat} {cs : List Nat} {tr : List (Option (List Nat))} {slots : List AV} {toks : List Tok} :
    rrunD C ops ⟨prs, cs0, wr⟩ L (o :: l) i off cs tr ⟨slots, toks⟩ = bindS (contD C ops ⟨prs, cs0, wr⟩ L o l i off cs tr slots) (rstepD (if wr.contains i then C else noM C) ops L off (cs.headD 0) o ⟨slots, toks⟩) := by
  simp only [rrunD]
  cases rstepD (if wr.contains i then C else noM C) ops L off (cs.headD 0) o ⟨slots, toks⟩ <;> rfl
theorem rdraw_eq {ops : List Oper} {prs : List (Nat × Nat)} {cs wr : List Nat} {slots : List AV} {toks : List Tok} : rdraw C ops ⟨prs, cs, wr⟩ ⟨slots, toks⟩ =
    rrunD C ops ⟨prs, cs, wr⟩ (toks.length + cs.sum) ops 0 toks.length cs [] ⟨slots, toks ++ List.replicate cs.sum ⟨true, .junk⟩⟩ := rfl
/-- An operation's new rows get their numbers. -/
def outC (L off : Nat) (d : Option Nat) (x : AV) (slots : List AV) (toks : List Tok) : Nat → Option ASt
  | 0 => if toks.length = L then some ⟨putD slots d x, toks⟩ else none
  | c + 1 => if (toks.drop L).length ≤ c + 1 then some ⟨putD slots d (ren (shf L off) x), sets (nums off (toks.drop L)) (toks.take L)⟩ else none
theorem outC_zero {L off : Nat} {d : Option Nat} {x : AV} {slots : List AV} {toks : List Tok} : outC L off d x slots toks 0 = if toks.length = L then some ⟨putD slots d x, toks⟩ else none := rfl
theorem outC_succ {L off c : Nat} {d : Option Nat} {x : AV} {slots : List AV} {toks : List Tok} : outC L off d x slots toks (c + 1) = if (toks.drop L).length ≤ c + 1 then some ⟨putD slots d (ren (shf L off) x), sets (nums off (toks.drop L)) (toks.take L)⟩ else none := rfl
theorem outDr_some {L off c : Nat} {d : Option Nat} {x : AV} {slots : List AV} {toks : List Tok} : outDr L off c d (some ⟨x, slots, toks⟩) = outC L off d x slots toks c := by cases c <;> rfl
theorem rstepD_eq {ops : List Oper} {L off c : Nat} {o : Oper} {slots : List AV} {toks : List Tok} : rstepD C ops L off c o ⟨slots, toks⟩ = stepG (outDr L off c o.dst (aop C o.op slots toks)) ⟨putD slots o.dst (.tup []), toks⟩ (guardOk ops slots o) := by
  unfold rstepD
  simp only []
  cases guardOk ops slots o with
  | none => rfl
  | some g => simp only [stepG]

def callOut (slots : List AV) (toks : List Tok) (alt : Option Out) : Option AV → Option Out
  | some r => some ⟨(intern toks r).1, slots, (intern toks r).2⟩
  | none => alt
theorem callOut_some {slots : List AV} {toks : List Tok} {alt : Option Out} {r : AV} : callOut slots toks alt (some r) = some ⟨(intern toks r).1, slots, (intern toks r).2⟩ := rfl
theorem callOut_none {slots : List AV} {toks : List Tok} {alt : Option Out} : callOut slots toks alt none = alt := rfl
def callV (C : Ctx) (slots : List AV) (toks : List Tok) (args : List Operand) : AV → Option Out
  | .fn g caps => callOut slots toks (alt (mutCall slots toks (args.map (ev slots)) caps (C.M g (args.map (fun x => res toks (ev slots x)) ++ resL toks caps))) (alt (movCall slots toks (args.map (ev slots)) caps (C.V g (args.map (fun x => res toks (ev slots x)) ++ resL toks caps))) (frzCall slots toks (refsL (args.map (ev slots)) ++ refsL caps) (C.H g (args.map (fun x => res toks (ev slots x)) ++ resL toks caps))))) (C.G g (args.map (fun x => res toks (ev slots x)) ++ resL toks caps))
  | _ => none
theorem callV_fn {slots : List AV} {toks : List Tok} {args : List Operand} {g : FuncId} {caps : List AV} : callV C slots toks args (.fn g caps) = callOut slots toks (alt (mutCall slots toks (args.map (ev slots)) caps (C.M g (args.map (fun x => res toks (ev slots x)) ++ resL toks caps))) (alt (movCall slots toks (args.map (ev slots)) caps (C.V g (args.map (fun x => res toks (ev slots x)) ++ resL toks caps))) (frzCall slots toks (refsL (args.map (ev slots)) ++ refsL caps) (C.H g (args.map (fun x => res toks (ev slots x)) ++ resL toks caps))))) (C.G g (args.map (fun x => res toks (ev slots x)) ++ resL toks caps)) := rfl
theorem aop_call {f : Operand} {args : Array Operand} {ts : Array TypeId} {slots : List AV} {toks : List Tok} : aop C (.call ⟨.value f, args, ts⟩) slots toks = callV C slots toks args.toList (ev slots f) := by
  simp only [aop, callV]
  split
  · rename_i g caps h
    rw [h]
    simp only []
    cases C.G g (List.map (fun x => res toks (ev slots x)) args.toList ++ resL toks caps) <;> rfl
  · rename_i h
    cases hv : ev slots f <;> first | rfl | exact (h _ _ hv).elim

theorem frzCall_none {slots : List AV} {toks : List Tok} {l : List Nat} : frzCall slots toks l none = none := rfl
theorem frzCall_some {slots : List AV} {toks : List Tok} {l : List Nat} {sh : Bool} {r : AV} : frzCall slots toks l (some (sh, r)) = if (sh = false ∨ l = []) ∧ refs r = [] then some ⟨r, slots, toks⟩ else none := rfl
theorem movCall_none {slots : List AV} {toks : List Tok} {avs caps : List AV} : movCall slots toks avs caps none = none := rfl
theorem mutCall_none {slots : List AV} {toks : List Tok} {avs caps : List AV} : mutCall slots toks avs caps none = none := rfl

theorem take_map_all {α β : Type} {xs : List α} {f : α → β} : List.take xs.length (List.map f xs) = List.map f xs := List.take_of_length_le (by simp)

/-- Behind a round: the next state of the family ('lv': the slots that are read from the loop's head on). -/
def Nxt {α : Type} (lv : List Bool) (I : α → ASt) (μ : α → Nat) (x : α) (s : ASt) : Prop := ∃ y, sub (clean lv s) (I y) ∧ μ y < μ x
def loopS {α : Type} (lv : List Bool) (I : α → ASt) (μ : α → Nat) (x : α) (Q : Exit → ASt → Prop) : Exit → ASt → Prop := andThen (Nxt lv I μ x) Q
theorem loopS_normal {α : Type} {lv : List Bool} {I : α → ASt} {μ : α → Nat} {x : α} {Q : Exit → ASt → Prop} {s : ASt} : loopS lv I μ x Q .normal s = Nxt lv I μ x s := rfl
theorem loopS_exit {α : Type} {lv : List Bool} {I : α → ASt} {μ : α → Nat} {x : α} {Q : Exit → ASt → Prop} {s : ASt} {id : Nat} : loopS lv I μ x Q (.exit id) s = Q (.exit id) s := rfl
theorem loopS_ret {α : Type} {lv : List Bool} {I : α → ASt} {μ : α → Nat} {x : α} {Q : Exit → ASt → Prop} {s : ASt} : loopS lv I μ x Q .ret s = Q .ret s := rfl

/-- A loop by a family of states and a measure. -/
theorem awp_loop_of (hC : C.Ok P) (hm : P.follows .mixedOrders = true) (lv : List Bool) {c : Code} {st : ASt} {Q : Exit → ASt → Prop} {α : Type} (I : α → ASt) (μ : α → Nat) (x0 : α) (h0 : sub (clean lv st) (I x0))
    (hstep : ∀ x, awp P C live U w0 c (I x) (loopS lv I μ x Q)) : Tr P U w0 (.loop c) st Q :=
  tr_loop I μ x0 ((le_clean lv).trans (le_sub h0)) fun x => (tr_awp hC hm c _ _ (hstep x)).weak (andThen_mono fun s hs => by
    obtain ⟨y, h1, h2⟩ := hs
    exact ⟨y, (le_clean lv).trans (le_sub h1), h2⟩)

theorem wrapI {x : Int} (h1 : -9223372036854775808 ≤ x) (h2 : x ≤ 9223372036854775807) : IntKind.i64.wrap x = x := by
  exact Go.IntWalk.i64_in x ⟨h1, h2⟩

end

end Go.Proofs.YtkfgmpmeipilnaaDoor.Ax

/-
  From the run of a function's body to its contract. No condition.
-/
namespace Go.Proofs.YtkfgmpmeipilnaaDoor.Ax
open Go Go.RowKit

def resVar (C : Ctx) (st : ASt) : ResultVar → Option (AV × List Nat)
  | .tmp t => ownR st.toks (st.slots.getD t .junk)
  | .cell a t => (match st.slots.getD a .junk, C.T t with
    | .ptr k [] 0 0, some ti => (match st.toks[k]? with
      | some tk => (match tk.row with
        | .sl _ sz (e :: _) => if tk.deep = true ∧ sz = ti.size then (if TypeDesc.aggB ti.desc then (match e with
              | .agg cs => some (.agg cs, [k])
              | _ => none)
            else (match e.cells with
              | [c] => some (c, [k])
              | _ => none)) else none
        | _ => none)
      | none => none)
    | _, _ => none)

def resVars (C : Ctx) (st : ASt) : List ResultVar → Option (List AV × List Nat)
  | [] => some ([], [])
  | r :: rs => (match resVar C st r, resVars C st rs with
    | some q, some q' => some (q.1 :: q'.1, q.2 ++ q'.2)
    | _, _ => none)

def pack : List AV → AV
  | [x] => x
  | xs => .tup xs

def resOk (C : Ctx) (st : ASt) (rs : List ResultVar) (r : AV) : Prop :=
  (match resVars C st rs with
    | some q => if q.2.Nodup then some (pack q.1) else none
    | none => none) = some r

/-- The body has ended, and r is what it hands back. -/
def doneS (C : Ctx) (rs : List ResultVar) (r : AV) : Exit → ASt → Prop := fun e s => (e = .normal ∨ e = .ret) ∧ resOk C s rs r
theorem doneS_normal {C : Ctx} {rs : List ResultVar} {r : AV} {s : ASt} : doneS C rs r .normal s = resOk C s rs r := by simp [doneS]
theorem doneS_ret {C : Ctx} {rs : List ResultVar} {r : AV} {s : ASt} : doneS C rs r .ret s = resOk C s rs r := by simp [doneS]

def resSem (tmps : Array Value) : ResultVar → Sem Value
  | .tmp t => pure (tmps.getD t undef)
  | .cell ad t => do loadVar t (← asAddr (tmps.getD ad undef))

theorem results_eq (fn : Func) (tmps : Array Value) : results fn tmps = (do
    let vs ← fn.results.mapM (resSem tmps)
    pure (if h : vs.size = 1 then vs[0] else .tuple vs)) := by
  unfold results
  congr

section
variable {P : Program} {C : Ctx} {a : Act} {w : World} {U : Ld} {w0 : World} {st : ASt} {E : Env}

theorem resVar_ok (hC : C.Ok P) (hs : SR U w0 st E a w) {w2 : World} (hA : ∀ t b, E.S t b → w2.heap[b]? = w.heap[b]?) {F : Nat → Prop} (r : ResultVar) (q : AV × List Nat) (h : resVar C st r = some q) (hn : q.2.Nodup) :
    ∃ y, (resSem a.tmps r).run P w2 = .ok y w2 ∧ Own w2 true F (SU E q.2) q.1 y := by
  cases r with
  | tmp t =>
    simp only [resVar] at h
    have hev := hs.ev (.tmp t)
    simp only [Ax.ev, Act.eval] at hev
    have hown := ownR_ok (F := fun _ => False) hs _ _ q hev h hn
    exact ⟨a.tmps.getD t undef, rfl, Own.deepF _ _ (hown.weak (fun _ h => h) (fun _ h => h) (fun b hb => hb.elim False.elim fun ⟨t', _, hb⟩ => hA t' b hb))⟩
  | cell ad t =>
    simp only [resVar] at h
    split at h
    · rename_i k ti hp hti
      have ht := hC.T t ti hti
      have hpv := hs.ev (.tmp ad)
      simp only [Ax.ev, Act.eval] at hpv
      rw [hp] at hpv
      simp only [SRep] at hpv
      split at h
      · rename_i tk htk
        split at h
        · rename_i nl sz e es hrow
          split at h
          · rename_i hc
            obtain ⟨hd, hsz⟩ := hc
            obtain ⟨b, o, hl, hcp, g1, hy⟩ := hpv.2 tk nl sz (e :: es) htk (by simp [getAt, hrow]) (by simp)
            simp only [follow, Option.some.injEq] at g1
            have hown : Own w tk.deep E.F (E.S k) (.sl nl sz (e :: es)) (E.hd k) := by
              rcases hs.tok k tk htk with hj | ⟨nl', sz', es', e1, e2⟩
              · rw [hrow] at hj; simp at hj
              · rw [hrow] at e1; simp only [AV.sl.injEq] at e1; obtain ⟨rfl, rfl, rfl⟩ := e1; exact e2.own
            rw [hd] at hown
            replace hown : Own w2 true (fun _ => False) (E.S k) (.sl nl sz (e :: es)) (E.hd k) := (Own.deepF (F' := fun _ => False) _ _ hown).weak (fun _ h => h) (fun _ h => h) (fun b hb => hb.elim False.elim fun hb => hA k b hb)
            obtain ⟨b2, o2, l, cp, x, hv, _, _, k1, k2, k3, k4⟩ := Own.elem hown (i := 0) (e := e) (by simp)
            rw [g1] at hv
            simp only [Value.slice.injEq, Option.some.injEq, Addr.mk.injEq, and_true] at hv
            obtain ⟨⟨rfl, rfl⟩, rfl, rfl⟩ := hv
            simp only [Nat.zero_mul, Nat.add_zero] at k4 hy
            split at h
            · rename_i hagg
              split at h
              · rename_i cs
                simp only [Option.some.injEq] at h; subst h
                simp only [Own] at k1
                obtain ⟨ys, rfl, k1⟩ := k1
                have hr := run_load_agg (P := P) (w := w2) (b := b) (o' := o) (ys := ys.toList) ht hagg k4 (by rw [← hsz, ← k2]; simp [Value.cells])
                refine ⟨.agg ys, ?_, ?_⟩
                · simp only [resSem]
                  rw [hy]
                  simpa [asAddr, Instr.loadAt, Instr.sureAddr] using hr
                · simp only [Own]
                  exact ⟨ys, rfl, OwnL.deepF _ _ (k1.mono fun b hb => ⟨k, by simp, hb⟩)⟩
              · simp at h
            · rename_i hagg
              split at h
              · rename_i c hcl
                simp only [Option.some.injEq] at h; subst h
                obtain ⟨y, hyc, hoc⟩ := Own.cell k1 (by rw [k2, k3]) 0 c (by rw [hcl]; rfl)
                have hcell : w2.cell? ⟨b, o, none⟩ = some y := by simpa using k4 0 y (by simpa using hyc)
                have hr := run_load_one (P := P) (w := w2) (b := b) (o' := o) ht (by simpa using hagg) hcell
                refine ⟨y, ?_, Own.deepF _ _ (hoc.weak (fun _ h => h) (fun b hb => ⟨k, by simp, hb⟩) (Agree.refl _ _))⟩
                simp only [resSem]
                rw [hy]
                simpa [asAddr, Instr.loadAt, Instr.sureAddr] using hr
              · simp at h
          · simp at h
        · simp at h
      · simp at h
    · simp at h

theorem resVars_ok (hC : C.Ok P) (hs : SR U w0 st E a w) {w2 : World} (hA : ∀ t b, E.S t b → w2.heap[b]? = w.heap[b]?) {F : Nat → Prop} : ∀ (rs : List ResultVar) (q : List AV × List Nat), resVars C st rs = some q → q.2.Nodup →
    ∃ ys, (rs.mapM (resSem a.tmps) : Sem (List Value)).run P w2 = .ok ys w2 ∧ OwnL w2 true F (SU E q.2) q.1 ys
  | [], q, h, _ => by
    simp only [resVars, Option.some.injEq] at h; subst h
    exact ⟨[], by simp, by simp [OwnL]⟩
  | r :: rs, q, h, hn => by
    simp only [resVars] at h
    split at h
    · rename_i q1 q2 h1 h2
      simp only [Option.some.injEq] at h; subst h
      have hn' := hn
      rw [List.nodup_append] at hn
      obtain ⟨y, k1, k2⟩ := resVar_ok (F := F) hC hs hA r q1 h1 hn.1
      obtain ⟨ys, g1, g2⟩ := resVars_ok (F := F) hC hs hA rs q2 h2 hn.2.1
      refine ⟨y :: ys, ?_, ?_⟩
      · rw [List.mapM_cons, Sem.run_bind, k1, Result.andThen_ok, Sem.run_bind, g1]; rfl
      · simp only [OwnL]
        exact ⟨y, ys, SU E q1.2, SU E q2.2, rfl, fun b hb => (SU_app b).2 (.inl hb), fun b hb => (SU_app b).2 (.inr hb), fun b hb hb' => SU_disj hs hn' b hb hb', k2, g2⟩
    · simp at h

theorem pack_ok {F S : Nat → Prop} : ∀ {xs : List AV} {ys : List Value}, OwnL w true F S xs ys → Own w true F S (pack xs) (if h : ys.toArray.size = 1 then ys.toArray[0] else .tuple ys.toArray)
  | [], ys, g => by
    simp only [OwnL] at g; subst g
    simp only [pack, Own]
    exact ⟨#[], by simp, by simp [OwnL]⟩
  | [x], ys, g => by
    simp only [OwnL] at g
    obtain ⟨y, ys', S1, S2, rfl, e1, _, _, k, rfl⟩ := g
    simp only [pack]
    simpa using k.weak (fun _ h => h) e1 (Agree.refl _ _)
  | x :: x' :: xs, ys, g => by
    have hl := g.len
    simp only [pack, Own]
    refine ⟨ys.toArray, ?_, by simpa using g⟩
    rw [dif_neg (by simp [hl])]

theorem results_ok (hC : C.Ok P) (hs : SR U w0 st E a w) {w2 : World} (hA : ∀ t b, E.S t b → w2.heap[b]? = w.heap[b]?) (hsz : w.heap.size ≤ w2.heap.size) {F : Nat → Prop} {fn : Func} {r : AV} (h : resOk C st fn.results.toList r) :
    ∃ (y : Value) (S : Nat → Prop), (results fn a.tmps).run P w2 = .ok y w2 ∧ (∀ b, S b → w0.heap.size ≤ b ∨ U b) ∧ (∀ b, S b → b < w2.heap.size) ∧ Own w2 true F S r y := by
  obtain ⟨q, h1, h2, h3⟩ : ∃ q, resVars C st fn.results.toList = some q ∧ q.2.Nodup ∧ pack q.1 = r := by
    unfold resOk at h
    split at h
    · rename_i q hq
      split at h
      · rename_i hn; exact ⟨q, hq, hn, by simpa using h⟩
      · simp at h
    · simp at h
  obtain ⟨ys, g1, g2⟩ := resVars_ok (F := F) hC hs hA _ q h1 h2
  have hS : ∀ b, SU E q.2 b → (w0.heap.size ≤ b ∨ U b) ∧ b < w2.heap.size := fun b hb => by
    obtain ⟨t, _, hb⟩ := hb
    exact ⟨(hs.slt t b hb).2.2, Nat.lt_of_lt_of_le (hs.slt t b hb).1 hsz⟩
  have hrun : (results fn a.tmps).run P w2 = .ok (if h : ys.toArray.size = 1 then ys.toArray[0] else .tuple ys.toArray) w2 := by
    rw [results_eq, Sem.run_bind, Array.mapM_eq_mapM_toList, Sem.run_map, g1]
    rfl
  refine ⟨_, SU E q.2, hrun, fun b hb => (hS b hb).1, fun b hb => (hS b hb).2, ?_⟩
  rw [← h3]
  exact pack_ok g2

/-- The marks are taken up, one by one: the loops' blocks are shut; then the results are read. -/
theorem leaves_marks {fn : Func} {tmps : Array Value} {R : Ending → World → Prop} : ∀ (Ds : List Nat) (w : World), Ds.Nodup → (∀ D ∈ Ds, w.heap[D]? = some (.deferred (some []))) →
    (∀ w2 : World, (∀ b, b ∉ Ds → w2.heap[b]? = w.heap[b]?) → w2.heap.size = w.heap.size → w2.os = w.os → w2.tape = w.tape → w2.output = w.output → ∃ v, (results fn tmps).run P w2 = .ok v w2 ∧ R (.returned v) w2) →
    LeavesInM Fence.wide 0 P fn tmps R (Ds.map fun D => ({ target := .collected D, args := #[] } : Deferred)) .returning w
  | [], w, _, _, h => by
    obtain ⟨v, h1, h2⟩ := h w (fun _ _ => rfl) rfl rfl rfl rfl
    exact ⟨v, h1, h2⟩
  | D :: Ds, w, hnd, hD, h => by
    rw [List.nodup_cons] at hnd
    have hDw := hD D (by simp)
    refine ⟨by simp, .inl ⟨D, _, rfl, run_takeDeferred hDw, ?_⟩⟩
    refine leaves_marks Ds _ hnd.2 (fun D' hD' => ?_) fun w2 k1 k2 k3 k4 k5 => ?_
    · rw [World.putObj_heap_other (fun (e : D' = D) => hnd.1 (by rw [← e]; exact hD'))]; exact hD D' (by simp [hD'])
    · refine h w2 (fun b hb => ?_) (by simpa using k2) k3 k4 k5
      simp only [List.mem_cons, not_or] at hb
      rw [k1 b hb.2, World.putObj_heap_other hb.1]

theorem RepL_srep {F : Nat → Prop} {E : Env} (hE : E.F = F) : ∀ {xs : List AV} {ys : List Value}, RepL w F xs ys → ∀ (i : Nat) (x : AV), xs[i]? = some x → ∃ y : Value, ys[i]? = some y ∧ SRep w E [] x y := by
  intro xs ys h i x hi
  obtain ⟨y, h1, h2⟩ := RepL.get h i x hi
  subst hE
  exact ⟨y, h1, SRep.of_rep _ _ h2⟩

/-- The contract of a function, by the run of its body. -/
theorem callOk_of_awp (hC : C.Ok P) (hm : P.follows .mixedOrders = true) {live : List Bool} {dt : List (Nat × RD)} {f : FuncId} {fn : Func} {c : Code} {args : List AV} {r : AV} (hf : P.funcs[f]? = some fn) (hb : fn.body = some c) (hname : (fn.name == "runtime.NumGoroutine") = false) (hck : codeOk dt [] c = true)
    (h : ∀ w0, awp P C live (noLd dt) w0 c ⟨args ++ List.replicate (fn.ntmps - args.length) .junk, []⟩ (doneS C fn.results.toList r)) : CallOk P f args r := by
  refine ⟨⟨fn, hf, hname, by rw [hb]; rfl⟩, fun w F vals hF hvals => ?_⟩
  have hlen : vals.size = args.length := by simpa using hvals.length
  refine (callsIn_wide (n := 0)).1 (callsIn_of_wp_marks hf hb trivial ?_)
  let E : Env := { F := F, hd := fun _ => undef, S := fun _ _ => False }
  have hs : SR (noLd dt) w ⟨args ++ List.replicate (fn.ntmps - args.length) .junk, []⟩ E { tmps := vals ++ Array.replicate (fn.ntmps - vals.size) undef, defers := [] } w := by
    refine ⟨Marks.nil hF.gl (fun _ _ => .inl trivial), by simp [hlen], fun i x hi => ?_, hF.lt, fun t tk ht => by simp at ht, fun t b hb => hb.elim, fun t t' b _ hb => hb.elim, Frm.refl _ _, fun i hi => by simp [noLd] at hi⟩
    by_cases hlt : i < args.length
    · rw [List.getElem?_append_left hlt] at hi
      obtain ⟨y, h1, h2⟩ := RepL_srep (E := E) rfl hvals i x hi
      have h1' : vals[i]? = some y := by simpa using h1
      have : (vals ++ Array.replicate (fn.ntmps - vals.size) undef).getD i undef = y := by
        rw [Array.getD_eq_getD_getElem?, Array.getElem?_append_left (by omega), h1']; rfl
      rw [this]; exact h2
    · rw [List.getElem?_append_right (by omega)] at hi
      have := List.mem_of_getElem? hi
      rw [List.mem_replicate] at this
      rw [this.2]; simp [SRep]
  refine tr_awp hC hm c _ _ (h w) hck E _ w hs _ fun e st' E' a' w' hq hs' => ?_
  obtain ⟨he, hr⟩ := hq
  have hpost : LeavesInM Fence.wide 0 P fn a'.tmps (fun e w' => ∃ (y : Value) (S : Nat → Prop), e = .returned y ∧ Frm (fun _ => False) w w' ∧ (∀ b, S b → w.heap.size ≤ b ∧ b < w'.heap.size) ∧ Own w' true (fun _ => False) S r y) a'.defers .returning w' := by
    obtain ⟨Ds, m1, m2, m3⟩ := hs'.defers.marks rfl
    rw [m1]
    refine leaves_marks Ds w' m2 (fun D hD => (m3 D hD).2.2) fun w2 n1 n2 n3 n4 n5 => ?_
    obtain ⟨y, S, k1, k2, k3, k4⟩ := results_ok (w2 := w2) (F := fun _ => False) hC hs' (fun t b hb => n1 b fun hD => (hs'.slt t b hb).2.1 (m3 b hD).1) (by omega) hr
    refine ⟨y, k1, y, S, rfl, ⟨n3.trans hs'.frame.os, n4.trans hs'.frame.tape, n5.trans hs'.frame.output, by rw [n2]; exact hs'.frame.size, fun b hb hU => (n1 b fun hD => by have := (m3 b hD).2.1; omega).trans (hs'.frame.block b hb hU)⟩, fun b hb => ⟨(k2 b hb).resolve_right id, k3 b hb⟩, k4⟩
  rcases he with rfl | rfl
  · exact hpost
  · exact hpost

/-! What is handed back is only read from then on. -/

def resVarF (C : Ctx) (st : ASt) : ResultVar → Option AV
  | .tmp t => some (Ax.res st.toks (st.slots.getD t .junk))
  | .cell a t => (match st.slots.getD a .junk, C.T t with
    | .ptr k [] 0 0, some ti => (match st.toks[k]? with
      | some tk => (match tk.row with
        | .sl _ sz (e :: _) => if sz = ti.size then (if TypeDesc.aggB ti.desc then (match e with
              | .agg cs => some (.agg cs)
              | _ => none)
            else (match e.cells with
              | [c] => some c
              | _ => none)) else none
        | _ => none)
      | none => none)
    | _, _ => none)

def resVarsF (C : Ctx) (st : ASt) : List ResultVar → Option (List AV)
  | [] => some []
  | r :: rs => (match resVarF C st r, resVarsF C st rs with
    | some q, some q' => some (q :: q')
    | _, _ => none)

def doneF (C : Ctx) (rs : List ResultVar) (r : AV) : Exit → ASt → Prop := fun e s => (e = .normal ∨ e = .ret) ∧ (resVarsF C s rs).map pack = some r
theorem doneF_normal {C : Ctx} {rs : List ResultVar} {r : AV} {s : ASt} : doneF C rs r .normal s = ((resVarsF C s rs).map pack = some r) := by simp [doneF]
theorem doneF_ret {C : Ctx} {rs : List ResultVar} {r : AV} {s : ASt} : doneF C rs r .ret s = ((resVarsF C s rs).map pack = some r) := by simp [doneF]

theorem resVarF_ok (hC : C.Ok P) (hs : SR U w0 st E a w) (r : ResultVar) (q : AV) (h : resVarF C st r = some q) : ∃ y, (resSem a.tmps r).run P w = .ok y w ∧ Rep w (allB E) q y := by
  cases r with
  | tmp t =>
    simp only [resVarF, Option.some.injEq] at h; subst h
    have hev := hs.ev (.tmp t)
    simp only [Ax.ev, Act.eval] at hev
    exact ⟨a.tmps.getD t undef, rfl, SRep.res hs.tokOk _ _ hev⟩
  | cell ad t =>
    simp only [resVarF] at h
    split at h
    · rename_i k ti hp hti
      have ht := hC.T t ti hti
      have hpv := hs.ev (.tmp ad)
      simp only [Ax.ev, Act.eval] at hpv
      rw [hp] at hpv
      simp only [SRep] at hpv
      split at h
      · rename_i tk htk
        split at h
        · rename_i nl sz e es hrow
          split at h
          · rename_i hsz
            obtain ⟨b, o, hl, hcp, g1, hy⟩ := hpv.2 tk nl sz (e :: es) htk (by simp [getAt, hrow]) (by simp)
            simp only [follow, Option.some.injEq] at g1
            have hown : Own w tk.deep E.F (E.S k) (.sl nl sz (e :: es)) (E.hd k) := by
              rcases hs.tok k tk htk with hj | ⟨nl', sz', es', e1, e2⟩
              · rw [hrow] at hj; simp at hj
              · rw [hrow] at e1; simp only [AV.sl.injEq] at e1; obtain ⟨rfl, rfl, rfl⟩ := e1; exact e2.own
            have hrep := Rep.weak (F' := allB E) hown.rep (fun b hb => hb.elim .inl fun h => .inr ⟨k, h⟩) (Agree.refl _ _)
            rw [g1] at hrep
            simp only [Rep] at hrep
            obtain ⟨ad', len, cap, hv, h1, h2, h3, h4⟩ := hrep
            simp only [Value.slice.injEq] at hv
            obtain ⟨rfl, rfl, rfl⟩ := hv
            rcases h4 with h4 | ⟨b2, o2, hb, hnl, h4⟩ | ⟨_, _, h4⟩
            · simp at h4
            rotate_left
            · simp at h4
            simp only [Option.some.injEq, Addr.mk.injEq, and_true] at hb
            obtain ⟨rfl, rfl⟩ := hb
            obtain ⟨x, k1, k2, k3, _, k4⟩ := RepRow.get h4 0 e rfl
            simp only [Nat.zero_mul, Nat.add_zero] at k4 hy
            split at h
            · rename_i hagg
              split at h
              · rename_i cs
                simp only [Option.some.injEq] at h; subst h
                simp only [Rep] at k1
                obtain ⟨ys, rfl, k1⟩ := k1
                have hr := run_load_agg (P := P) (w := w) (b := b) (o' := o) (ys := ys.toList) ht hagg k4 (by rw [← hsz, ← k2]; simp [Value.cells])
                refine ⟨.agg ys, ?_, ?_⟩
                · simp only [resSem]
                  rw [hy]
                  simpa [asAddr, Instr.loadAt, Instr.sureAddr] using hr
                · simp only [Rep]
                  exact ⟨ys, rfl, k1⟩
              · simp at h
            · rename_i hagg
              split at h
              · rename_i c hcl
                simp only [Option.some.injEq] at h; subst h
                obtain ⟨y, hyc, hoc⟩ := Own.cell (S := fun _ => False) (Rep.own _ _ k1) (by rw [k2, k3]) 0 c (by rw [hcl]; rfl)
                have hcell : w.cell? ⟨b, o, none⟩ = some y := by simpa using k4 0 y (by simpa using hyc)
                have hr := run_load_one (P := P) (w := w) (b := b) (o' := o) ht (by simpa using hagg) hcell
                refine ⟨y, ?_, hoc.rep.weak (fun b hb => hb.elim id False.elim) (Agree.refl _ _)⟩
                simp only [resSem]
                rw [hy]
                simpa [asAddr, Instr.loadAt, Instr.sureAddr] using hr
              · simp at h
          · simp at h
        · simp at h
      · simp at h
    · simp at h

theorem resVarsF_ok (hC : C.Ok P) (hs : SR U w0 st E a w) : ∀ (rs : List ResultVar) (q : List AV), resVarsF C st rs = some q →
    ∃ ys, (rs.mapM (resSem a.tmps) : Sem (List Value)).run P w = .ok ys w ∧ RepL w (allB E) q ys
  | [], q, h => by
    simp only [resVarsF, Option.some.injEq] at h; subst h
    exact ⟨[], by simp, by simp [RepL]⟩
  | r :: rs, q, h => by
    simp only [resVarsF] at h
    split at h
    · rename_i q1 q2 h1 h2
      simp only [Option.some.injEq] at h; subst h
      obtain ⟨y, k1, k2⟩ := resVarF_ok hC hs r q1 h1
      obtain ⟨ys, g1, g2⟩ := resVarsF_ok hC hs rs q2 h2
      refine ⟨y :: ys, ?_, ?_⟩
      · rw [List.mapM_cons, Sem.run_bind, k1, Result.andThen_ok, Sem.run_bind, g1]; rfl
      · simp only [RepL]; exact ⟨y, ys, rfl, k2, g2⟩
    · simp at h

theorem packF_ok {F : Nat → Prop} : ∀ {xs : List AV} {ys : List Value}, RepL w F xs ys → Rep w F (pack xs) (if h : ys.toArray.size = 1 then ys.toArray[0] else .tuple ys.toArray)
  | [], ys, g => by
    simp only [RepL] at g; subst g
    simp only [pack, Rep]
    exact ⟨#[], by simp, by simp [RepL]⟩
  | [x], ys, g => by
    simp only [RepL] at g
    obtain ⟨y, ys', rfl, k, rfl⟩ := g
    simp only [pack]
    simpa using k
  | x :: x' :: xs, ys, g => by
    have hl := g.length
    simp only [pack, Rep]
    refine ⟨ys.toArray, ?_, by simpa using g⟩
    rw [dif_neg (by simp [hl])]

/-- The contract of a function whose result is only read, by the run of its body. -/
theorem frzOk_of_awp (hC : C.Ok P) (hm : P.follows .mixedOrders = true) {live : List Bool} {dt : List (Nat × RD)} {f : FuncId} {fn : Func} {c : Code} {args : List AV} {r : AV} (hf : P.funcs[f]? = some fn) (hb : fn.body = some c) (hname : (fn.name == "runtime.NumGoroutine") = false) (hck : codeOk dt [] c = true)
    (h : ∀ A w0, awp P C live (frzLd A dt) w0 c ⟨args ++ List.replicate (fn.ntmps - args.length) .junk, []⟩ (doneF C fn.results.toList r)) : FrzOk P f args true r := by
  refine ⟨⟨fn, hf, hname, by rw [hb]; rfl⟩, fun w F vals hF hvals => ?_⟩
  have hlen : vals.size = args.length := by simpa using hvals.length
  refine (callsIn_wide (n := 0)).1 (callsIn_of_wp_marks hf hb trivial ?_)
  let E : Env := { F := F, hd := fun _ => undef, S := fun _ _ => False }
  have hs : SR (frzLd F dt) w ⟨args ++ List.replicate (fn.ntmps - args.length) .junk, []⟩ E { tmps := vals ++ Array.replicate (fn.ntmps - vals.size) undef, defers := [] } w := by
    refine ⟨Marks.nil hF.gl (fun _ h => .inl h), by simp [hlen], fun i x hi => ?_, hF.lt, fun t tk ht => by simp at ht, fun t b hb => hb.elim, fun t t' b _ hb => hb.elim, Frm.refl _ _, fun i hi => by simp [frzLd] at hi⟩
    by_cases hlt : i < args.length
    · rw [List.getElem?_append_left hlt] at hi
      obtain ⟨y, h1, h2⟩ := RepL_srep (E := E) rfl hvals i x hi
      have h1' : vals[i]? = some y := by simpa using h1
      have : (vals ++ Array.replicate (fn.ntmps - vals.size) undef).getD i undef = y := by
        rw [Array.getD_eq_getD_getElem?, Array.getElem?_append_left (by omega), h1']; rfl
      rw [this]; exact h2
    · rw [List.getElem?_append_right (by omega)] at hi
      have := List.mem_of_getElem? hi
      rw [List.mem_replicate] at this
      rw [this.2]; simp [SRep]
  refine tr_awp hC hm c _ _ (h F w) hck E _ w hs _ fun e st' E' a' w' hq hs' => ?_
  obtain ⟨he, hr⟩ := hq
  have hpost : LeavesInM Fence.wide 0 P fn a'.tmps (fun e w' => ∃ (y : Value) (F' : Nat → Prop), e = .returned y ∧ Frm (fun _ => False) w w' ∧ (∀ b, F' b → ((true = true ∧ F b) ∨ w.heap.size ≤ b) ∧ b < w'.heap.size) ∧ Rep w' F' r y) a'.defers .returning w' := by
    rw [hs'.defers.none rfl]
    obtain ⟨q, h1, h2⟩ := Option.map_eq_some_iff.1 hr
    obtain ⟨ys, g1, g2⟩ := resVarsF_ok hC hs' _ q h1
    have hrun : (results fn a'.tmps).run P w' = .ok (if h : ys.toArray.size = 1 then ys.toArray[0] else .tuple ys.toArray) w' := by
      rw [results_eq, Sem.run_bind, Array.mapM_eq_mapM_toList, Sem.run_map, g1]
      rfl
    refine ⟨_, hrun, _, allB E', rfl, hs'.frame, fun b hb => ⟨?_, hs'.allLt b hb⟩, by rw [← h2]; exact packF_ok g2⟩
    rcases hb with hb | ⟨t, hb⟩
    · rcases hs'.defers.fz b hb with h | h | h
      · exact .inl ⟨rfl, h⟩
      · exact h.elim
      · exact .inr h
    · rcases (hs'.slt t b hb).2.2 with h | h
      · exact .inr h
      · exact h.elim
  rcases he with rfl | rfl
  · exact hpost
  · exact hpost

theorem CallOk.frz {f : FuncId} {args : List AV} {r : AV} (h : CallOk P f args r) : FrzOk P f args false r :=
  ⟨h.1, fun w F vals hF hvals => (h.2 w F vals hF hvals).mono fun e w' he => by
    obtain ⟨y, S, rfl, h1, h2, h3⟩ := he
    exact ⟨y, S, rfl, h1, fun b hb => ⟨.inr (h2 b hb).1, (h2 b hb).2⟩, h3.rep.weak (fun b hb => hb.elim False.elim id) (Agree.refl _ _)⟩⟩

end
end Go.Proofs.YtkfgmpmeipilnaaDoor.Ax

/-
  The program's own table of types, as the abstract run asks it. No condition.
-/
namespace Go.Proofs.YtkfgmpmeipilnaaDoor.Ax
open Go Go.RowKit

def tyOf (P : Program) (t : TypeId) : Option TI :=
  match P.underlying t, P.info? t with
  | some d, some i => (match i.zero with
    | some z => if z.cells.size = i.size ∧ z.cells.all (·.oneCell') = true then some ⟨d, i.size, i.bytes, z⟩ else none
    | none => none)
  | _, _ => none

theorem tyOf_ok {P : Program} {t : TypeId} {ti : TI} (h : tyOf P t = some ti) : TOk P t ti := by
  unfold tyOf at h
  split at h
  · rename_i d i hd hi
    split at h
    · rename_i z hz
      split at h
      · rename_i hc
        simp only [Option.some.injEq] at h; subst h
        exact ⟨hd, ⟨i, hi, rfl, rfl, hz⟩, hc.1, hc.2⟩
      · simp at h
    · simp at h
  · simp at h

/-- The contracts that a proof leans on, by the functions' numbers. -/
def G (l : List (Nat × (List AV → Option AV))) (f : FuncId) (args : List AV) : Option AV :=
  match l with
  | [] => none
  | (g, m) :: l => if f = g then m args else G l f args

/-- 'Wherever the model m answers, the function answers so.' -/
def FnOk (P : Program) (f : FuncId) (m : List AV → Option AV) : Prop := ∀ args r, m args = some r → CallOk P f args r

inductive FnsOk (P : Program) : List (Nat × (List AV → Option AV)) → Prop
  | nil : FnsOk P []
  | cons {f : FuncId} {m : List AV → Option AV} {l : List (Nat × (List AV → Option AV))} : FnOk P f m → FnsOk P l → FnsOk P ((f, m) :: l)

theorem G_ok {P : Program} {l : List (Nat × (List AV → Option AV))} (h : FnsOk P l) : ∀ f args r, G l f args = some r → CallOk P f args r := by
  induction h with
  | nil => intro f args r h; simp [G] at h
  | cons hm _ ih =>
    intro f args r h
    simp only [G] at h
    split at h
    · rename_i e; subst e; exact hm args r h
    · exact ih f args r h

def ctx (P : Program) (X : TypeId → Option Nat) (l : List (Nat × (List AV → Option AV))) : Ctx := ⟨tyOf P, X, G l, fun _ _ => none, fun _ _ => none, fun _ _ => none, true⟩

theorem ctx_ok {P : Program} {X : TypeId → Option Nat} {l : List (Nat × (List AV → Option AV))} (hX : ∀ t n, X t = some n → EqOk P t n) (h : FnsOk P l) : (ctx P X l).Ok P := ⟨fun _ _ h => tyOf_ok h, hX, G_ok h, fun _ _ _ _ _ h => by simp [ctx] at h, fun _ _ _ _ h => by simp [ctx] at h, fun _ _ _ _ h => by simp [ctx] at h⟩

/-- Contracts of functions that change an argument, by the functions' numbers. -/
def GM (l : List (Nat × (List AV → Option (Nat × AV × AV)))) (f : FuncId) (args : List AV) : Option (Nat × AV × AV) :=
  match l with
  | [] => none
  | (g, m) :: l => if f = g then m args else GM l f args

def FnMut (P : Program) (f : FuncId) (m : List AV → Option (Nat × AV × AV)) : Prop := ∀ args pos r row', m args = some (pos, r, row') → MutOk P f args pos r row'

inductive FnsMut (P : Program) : List (Nat × (List AV → Option (Nat × AV × AV))) → Prop
  | nil : FnsMut P []
  | cons {f : FuncId} {m : List AV → Option (Nat × AV × AV)} {l : List (Nat × (List AV → Option (Nat × AV × AV)))} : FnMut P f m → FnsMut P l → FnsMut P ((f, m) :: l)

theorem GM_ok {P : Program} {l : List (Nat × (List AV → Option (Nat × AV × AV)))} (h : FnsMut P l) : ∀ f args pos r row', GM l f args = some (pos, r, row') → MutOk P f args pos r row' := by
  induction h with
  | nil => intro f args pos r row' h; simp [GM] at h
  | cons hm _ ih =>
    intro f args pos r row' h
    simp only [GM] at h
    split at h
    · rename_i e; subst e; exact hm args pos r row' h
    · exact ih f args pos r row' h

/-- Contracts of functions to which rows are handed over, by the functions' numbers. -/
def GV (l : List (Nat × (List AV → Option (List Nat × AV)))) (f : FuncId) (args : List AV) : Option (List Nat × AV) :=
  match l with
  | [] => none
  | (g, m) :: l => if f = g then m args else GV l f args

def FnMov (P : Program) (f : FuncId) (m : List AV → Option (List Nat × AV)) : Prop := ∀ args mv r, m args = some (mv, r) → MovOk P f args mv r

inductive FnsMov (P : Program) : List (Nat × (List AV → Option (List Nat × AV))) → Prop
  | nil : FnsMov P []
  | cons {f : FuncId} {m : List AV → Option (List Nat × AV)} {l : List (Nat × (List AV → Option (List Nat × AV)))} : FnMov P f m → FnsMov P l → FnsMov P ((f, m) :: l)

theorem GV_ok {P : Program} {l : List (Nat × (List AV → Option (List Nat × AV)))} (h : FnsMov P l) : ∀ f args mv r, GV l f args = some (mv, r) → MovOk P f args mv r := by
  induction h with
  | nil => intro f args mv r h; simp [GV] at h
  | cons hm _ ih =>
    intro f args mv r h
    simp only [GV] at h
    split at h
    · rename_i e; subst e; exact hm args mv r h
    · exact ih f args mv r h

def ctxM (P : Program) (X : TypeId → Option Nat) (l : List (Nat × (List AV → Option AV))) (m : List (Nat × (List AV → Option (Nat × AV × AV)))) : Ctx := ⟨tyOf P, X, G l, GM m, fun _ _ => none, fun _ _ => none, true⟩

theorem ctxM_ok {P : Program} {X : TypeId → Option Nat} {l : List (Nat × (List AV → Option AV))} {m : List (Nat × (List AV → Option (Nat × AV × AV)))} (hX : ∀ t n, X t = some n → EqOk P t n) (h : FnsOk P l) (hm : FnsMut P m) : (ctxM P X l m).Ok P := ⟨fun _ _ h => tyOf_ok h, hX, G_ok h, GM_ok hm, fun _ _ _ _ h => by simp [ctxM] at h, fun _ _ _ _ h => by simp [ctxM] at h⟩

def ctxV (P : Program) (X : TypeId → Option Nat) (l : List (Nat × (List AV → Option AV))) (m : List (Nat × (List AV → Option (Nat × AV × AV)))) (v : List (Nat × (List AV → Option (List Nat × AV)))) : Ctx := ⟨tyOf P, X, G l, GM m, GV v, fun _ _ => none, true⟩

theorem ctxV_ok {P : Program} {X : TypeId → Option Nat} {l : List (Nat × (List AV → Option AV))} {m : List (Nat × (List AV → Option (Nat × AV × AV)))} {v : List (Nat × (List AV → Option (List Nat × AV)))} (hX : ∀ t n, X t = some n → EqOk P t n) (h : FnsOk P l) (hm : FnsMut P m) (hv : FnsMov P v) : (ctxV P X l m v).Ok P := ⟨fun _ _ h => tyOf_ok h, hX, G_ok h, GM_ok hm, GV_ok hv, fun _ _ _ _ h => by simp [ctxV] at h⟩

/-- Contracts of functions whose results are only read, by the functions' numbers. -/
def GH (l : List (Nat × Bool × (List AV → Option AV))) (f : FuncId) (args : List AV) : Option (Bool × AV) :=
  match l with
  | [] => none
  | (g, sh, m) :: l => if f = g then (m args).map fun r => (sh, r) else GH l f args

def FnFrz (P : Program) (f : FuncId) (sh : Bool) (m : List AV → Option AV) : Prop := ∀ args r, m args = some r → FrzOk P f args sh r

inductive FnsFrz (P : Program) : List (Nat × Bool × (List AV → Option AV)) → Prop
  | nil : FnsFrz P []
  | cons {f : FuncId} {sh : Bool} {m : List AV → Option AV} {l : List (Nat × Bool × (List AV → Option AV))} : FnFrz P f sh m → FnsFrz P l → FnsFrz P ((f, sh, m) :: l)

theorem GH_ok {P : Program} {l : List (Nat × Bool × (List AV → Option AV))} (h : FnsFrz P l) : ∀ f args sh r, GH l f args = some (sh, r) → FrzOk P f args sh r := by
  induction h with
  | nil => intro f args sh r h; simp [GH] at h
  | cons hm _ ih =>
    intro f args sh r h
    simp only [GH] at h
    split at h
    · rename_i e; subst e
      simp only [Option.map_eq_some_iff, Prod.mk.injEq] at h
      obtain ⟨r', h1, rfl, rfl⟩ := h
      exact hm args r' h1
    · exact ih f args sh r h

theorem FnOk.frz {P : Program} {f : FuncId} {m : List AV → Option AV} (h : FnOk P f m) : FnFrz P f false m := fun args r hr => (h args r hr).frz

def ctxH (P : Program) (X : TypeId → Option Nat) (l : List (Nat × (List AV → Option AV))) (m : List (Nat × (List AV → Option (Nat × AV × AV)))) (v : List (Nat × (List AV → Option (List Nat × AV)))) (k : List (Nat × Bool × (List AV → Option AV))) : Ctx := ⟨tyOf P, X, G l, GM m, GV v, GH k, true⟩

theorem ctxH_ok {P : Program} {X : TypeId → Option Nat} {l : List (Nat × (List AV → Option AV))} {m : List (Nat × (List AV → Option (Nat × AV × AV)))} {v : List (Nat × (List AV → Option (List Nat × AV)))} {k : List (Nat × Bool × (List AV → Option AV))} (hX : ∀ t n, X t = some n → EqOk P t n) (h : FnsOk P l) (hm : FnsMut P m) (hv : FnsMov P v) (hk : FnsFrz P k) : (ctxH P X l m v k).Ok P :=
  ⟨fun _ _ h => tyOf_ok h, hX, G_ok h, GM_ok hm, GV_ok hv, GH_ok hk⟩

/-- A struct of two ints. -/
theorem eqOk_two {P : Program} {t ti : TypeId} {a b : String} {s1 s2 s3 s4 : String} {e1 e2 : Bool} {n1 n2 : Nat} (hg : P.eqGuardType P.depth t = false) (hp : P.stoodInHeld t = false) (hi : P.underlying ti = some (.int .i64))
    (ht : P.underlying t = some (.struct #[⟨a, ti, 0, e1, s1, s2, n1⟩, ⟨b, ti, 1, e2, s3, s4, n2⟩])) (ha : a ≠ "_") (hb : b ≠ "_") : EqOk P t 2 := by
  refine ⟨hg, fun w xs ys hx hy => ?_⟩
  obtain ⟨x0, x1, rfl⟩ : ∃ x0 x1, xs = [x0, x1] := by
    match xs, hx with
    | [x0, x1], _ => exact ⟨x0, x1, rfl⟩
  obtain ⟨y0, y1, rfl⟩ : ∃ y0 y1, ys = [y0, y1] := by
    match ys, hy with
    | [y0, y1], _ => exact ⟨y0, y1, rfl⟩
  have hf : P.fieldsOf t = #[⟨a, ti, 0, e1, s1, s2, n1⟩, ⟨b, ti, 1, e2, s3, s4, n2⟩] := by simp [Program.fieldsOf, ht]
  have hu := Go.run_underlying hi
  have q0 := run_equalIn_int (P := P) w 9998 ti .i64 .i64 x0 y0 hi
  have q1 := run_equalIn_int (P := P) w 9998 ti .i64 .i64 x1 y1 hi
  rw [run_equalIn_struct w 9999 t _ _ (by rw [hf]; exact ht) hp, hf]
  simp [Op.eqFields, ha, hb, part, isAgg, hu, q0, q1]
  by_cases h0 : x0 = y0
  · subst h0; simp
    by_cases h1 : x1 = y1
    · subst h1; simp
    · simp [h1]
  · simp [h0]

/-- A model by a family of arguments that are spoken of (those that meet 'pre'), and what the function answers there. -/
noncomputable def mk {α : Type} (pre : α → Prop) (enc : α → List AV) (f : α → AV) (args : List AV) : Option AV :=
  open Classical in if h : ∃ x, pre x ∧ enc x = args then some (f h.choose) else none

theorem mk_eq {α : Type} {pre : α → Prop} {enc : α → List AV} {f : α → AV} (hinj : ∀ x y, enc x = enc y → f x = f y) {x : α} (hx : pre x) : mk pre enc f (enc x) = some (f x) := by
  unfold mk
  have h : ∃ y, pre y ∧ enc y = enc x := ⟨x, hx, rfl⟩
  rw [dif_pos h, hinj _ _ h.choose_spec.2]

theorem mk_ok {P : Program} {α : Type} {pre : α → Prop} {enc : α → List AV} {f : α → AV} {g : FuncId} (h : ∀ x, pre x → CallOk P g (enc x) (f x)) : FnOk P g (mk pre enc f) := by
  intro args r hr
  unfold mk at hr
  split at hr
  · rename_i hx
    simp only [Option.some.injEq] at hr; subst hr
    have := h _ hx.choose_spec.1
    rw [hx.choose_spec.2] at this; exact this
  · simp at hr

theorem mk_frz {P : Program} {α : Type} {pre : α → Prop} {enc : α → List AV} {f : α → AV} {g : FuncId} {sh : Bool} (h : ∀ x, pre x → FrzOk P g (enc x) sh (f x)) : FnFrz P g sh (mk pre enc f) := by
  intro args r hr
  unfold mk at hr
  split at hr
  · rename_i hx
    simp only [Option.some.injEq] at hr; subst hr
    have := h _ hx.choose_spec.1
    rw [hx.choose_spec.2] at this; exact this
  · simp at hr

/-- The same for functions that change an argument. -/
noncomputable def mkM {α : Type} (pre : α → Prop) (enc : α → List AV) (f : α → Nat × AV × AV) (args : List AV) : Option (Nat × AV × AV) :=
  open Classical in if h : ∃ x, pre x ∧ enc x = args then some (f h.choose) else none

theorem mkM_eq {α : Type} {pre : α → Prop} {enc : α → List AV} {f : α → Nat × AV × AV} (hinj : ∀ x y, enc x = enc y → f x = f y) {x : α} (hx : pre x) : mkM pre enc f (enc x) = some (f x) := by
  unfold mkM
  have h : ∃ y, pre y ∧ enc y = enc x := ⟨x, hx, rfl⟩
  rw [dif_pos h, hinj _ _ h.choose_spec.2]

theorem mkM_ok {P : Program} {α : Type} {pre : α → Prop} {enc : α → List AV} {f : α → Nat × AV × AV} {g : FuncId} (h : ∀ x, pre x → MutOk P g (enc x) (f x).1 (f x).2.1 (f x).2.2) : FnMut P g (mkM pre enc f) := by
  intro args pos r row' hr
  unfold mkM at hr
  split at hr
  · rename_i hx
    simp only [Option.some.injEq] at hr
    have := h _ hx.choose_spec.1
    rw [hx.choose_spec.2, hr] at this; exact this
  · simp at hr

/-- The same for functions to which rows are handed over. -/
noncomputable def mkV {α : Type} (pre : α → Prop) (enc : α → List AV) (mv : List Nat) (f : α → AV) (args : List AV) : Option (List Nat × AV) :=
  open Classical in if h : ∃ x, pre x ∧ enc x = args then some (mv, f h.choose) else none

theorem mkV_eq {α : Type} {pre : α → Prop} {enc : α → List AV} {mv : List Nat} {f : α → AV} (hinj : ∀ x y, enc x = enc y → f x = f y) {x : α} (hx : pre x) : mkV pre enc mv f (enc x) = some (mv, f x) := by
  unfold mkV
  have h : ∃ y, pre y ∧ enc y = enc x := ⟨x, hx, rfl⟩
  rw [dif_pos h, hinj _ _ h.choose_spec.2]

theorem mkV_ok {P : Program} {α : Type} {pre : α → Prop} {enc : α → List AV} {mv : List Nat} {f : α → AV} {g : FuncId} (h : ∀ x, pre x → MovOk P g (enc x) mv (f x)) : FnMov P g (mkV pre enc mv f) := by
  intro args mv' r hr
  unfold mkV at hr
  split at hr
  · rename_i hx
    simp only [Option.some.injEq, Prod.mk.injEq] at hr
    obtain ⟨rfl, rfl⟩ := hr
    have := h _ hx.choose_spec.1
    rw [hx.choose_spec.2] at this; exact this
  · simp at hr

def int (n : Int) : AV := .v (.int .i64 n)
def bool (b : Bool) : AV := .v (.bool b)
def ints (nl : Bool) (xs : List Int) : AV := .sl nl 1 (xs.map int)

theorem int_inj {a b : Int} : int a = int b ↔ a = b := by simp [int]
theorem map_int_inj {a b : List Int} : a.map int = b.map int ↔ a = b := by
  constructor
  · intro h
    exact (List.map_inj_right (fun x y => int_inj.1)).1 h
  · rintro rfl; rfl

end Go.Proofs.YtkfgmpmeipilnaaDoor.Ax

/-
  What reads as data of a plain type (ints, bools, strings, slices and structs of them) reads so in the abstract run too. No condition.
-/
namespace Go.Proofs.YtkfgmpmeipilnaaDoor.Ax
open Go Go.RowKit Go.ChangeShapes Go.WideShapes

def tile (P : Program) : List Field → Nat → Nat → Bool
  | [], o, n => decide (o = n)
  | f :: fs, o, n => decide (f.offset = o) && tile P fs (o + P.cellsOf f.type) n

def structB (P : Program) (t : TypeId) : Bool := match P.underlying t with
  | some (.struct _) => true
  | _ => false

def plainB (P : Program) : Nat → TypeId → Bool
  | 0, _ => false
  | n + 1, t => match P.underlying t with
    | some (.int _) => true
    | some .bool => true
    | some .string => true
    | some (.slice e) => decide (P.cellsOf e ≠ 0) && plainB P n e
    | some (.struct fs) => tile P fs.toList 0 (P.cellsOf t) && fs.toList.all fun f => plainB P n f.type
    | _ => false

def AV.isAgg : AV → Bool
  | .agg _ => true
  | _ => false

inductive Dat (P : Program) : TypeId → List AV → Prop
  | int {t : TypeId} {k : IntKind} {n : Int} : P.underlying t = some (.int k) → (Lit.int k n).wf = true → Dat P t [.v (.int k n)]
  | bool {t : TypeId} {b : Bool} : P.underlying t = some .bool → Dat P t [.v (.bool b)]
  | str {t : TypeId} {s : ByteArray} : P.underlying t = some .string → s.size ≤ maxLen → Dat P t [.v (.string s)]
  | nilSl {t e : TypeId} : P.underlying t = some (.slice e) → Dat P t [.sl true (P.cellsOf e) []]
  | sl {t e : TypeId} {es : List AV} : P.underlying t = some (.slice e) → es.length ≤ maxLen → (∀ x ∈ es, x.isAgg = structB P e) → (∀ x ∈ es, Dat P e x.cells) → Dat P t [.sl false (P.cellsOf e) es]
  | struct {t : TypeId} {fs : Array Field} {pss : List (List AV)} : P.underlying t = some (.struct fs) → pss.length = fs.size → (∀ (i : Nat) (f : Field) (ps : List AV), fs[i]? = some f → pss[i]? = some ps → Dat P f.type ps) → Dat P t pss.flatten

theorem RepL.append {w : World} {F : Nat → Prop} : ∀ {al bs : List AV} {xs ys : List Value}, RepL w F al xs → RepL w F bs ys → RepL w F (al ++ bs) (xs ++ ys)
  | [], bs, xs, ys, h, k => by simp only [RepL] at h; subst h; simpa using k
  | a :: al, bs, xs, ys, h, k => by
    simp only [RepL] at h
    obtain ⟨y, zs, rfl, h1, h2⟩ := h
    simp only [List.cons_append, RepL]
    exact ⟨y, zs ++ ys, rfl, h1, RepL.append h2 k⟩

section
variable {H : Type} {enc : TypeId × Value → H} {P : Program} {w : World} {spare : Nat → Bool} {held : Bool}

theorem block_lt {a : Addr} {v : Value} (h : w.cell? a = some v) : a.block < w.heap.size := by
  exact World.block_lt_of_cell? _ _ h

theorem trod_fields {F : Nat → Prop} {n m : Nat} (ih : ∀ t cs x, DataW.trod enc P w 0 spare held n t cs = some x → plainB P m t = true → ∃ al, RepL w F al cs ∧ Dat P t al) :
    ∀ (fs : List Field) (o : Nat) (cs : List Value), tile P fs o cs.length = true → fs.all (fun f => plainB P m f.type) = true →
      (∀ (i : Nat) (f : Field), fs[i]? = some f → ∃ x, DataW.trod enc P w 0 spare held n f.type ((cs.drop f.offset).take (P.cellsOf f.type)) = some x) →
      ∃ pss : List (List AV), RepL w F pss.flatten (cs.drop o) ∧ pss.length = fs.length ∧ ∀ (i : Nat) (f : Field) (ps : List AV), fs[i]? = some f → pss[i]? = some ps → Dat P f.type ps
  | [], o, cs, ht, _, _ => by
    simp [tile] at ht
    exact ⟨[], by simp [RepL, ht], rfl, by simp⟩
  | f :: fs, o, cs, ht, hp, h => by
    simp only [tile, Bool.and_eq_true, decide_eq_true_eq, List.all_cons] at ht hp
    obtain ⟨x, hx⟩ := h 0 f rfl
    obtain ⟨al, h1, h2⟩ := ih _ _ _ hx hp.1
    obtain ⟨pss, k1, k2, k3⟩ := trod_fields ih fs (o + P.cellsOf f.type) cs ht.2 hp.2 (fun i g hg => h (i + 1) g (by simpa using hg))
    refine ⟨al :: pss, ?_, by simp [k2], ?_⟩
    · rw [ht.1] at h1
      have := RepL.append h1 k1
      rw [show cs.drop (o + P.cellsOf f.type) = (cs.drop o).drop (P.cellsOf f.type) by rw [List.drop_drop], List.take_append_drop] at this
      simpa using this
    · intro i g ps hg hps
      cases i with
      | zero => simp at hg hps; subst hg; subst hps; exact h2
      | succ i => exact k3 i g ps (by simpa using hg) (by simpa using hps)

theorem choose_list {α : Type} {Q : Nat → α → Prop} : ∀ (n : Nat), (∀ i, i < n → ∃ x, Q i x) → ∃ xs : List α, xs.length = n ∧ ∀ i x, xs[i]? = some x → Q i x
  | 0, _ => ⟨[], rfl, by simp⟩
  | n + 1, h => by
    obtain ⟨xs, h1, h2⟩ := choose_list n (fun i hi => h i (by omega))
    obtain ⟨x, hx⟩ := h n (by omega)
    refine ⟨xs ++ [x], by simp [h1], fun i y hy => ?_⟩
    by_cases hi : i < n
    · rw [List.getElem?_append_left (by omega)] at hy; exact h2 i y hy
    · rw [List.getElem?_append_right (by omega)] at hy
      have : i = n := by
        have := (List.getElem?_eq_some_iff.1 hy).1
        simp at this; omega
      subst this
      simp [h1] at hy; subst hy; exact hx

theorem Dat.one {t : TypeId} {al : List AV} (h : Dat P t al) (hs : structB P t = false) : ∃ a, al = [a] ∧ a.isAgg = false ∧ ((∃ x, a = .v x) ∨ ∃ nl sz es, a = .sl nl sz es) := by
  cases h with
  | struct hu => simp [structB, hu] at hs
  | int => exact ⟨_, rfl, rfl, .inl ⟨_, rfl⟩⟩
  | bool => exact ⟨_, rfl, rfl, .inl ⟨_, rfl⟩⟩
  | str => exact ⟨_, rfl, rfl, .inl ⟨_, rfl⟩⟩
  | nilSl => exact ⟨_, rfl, rfl, .inr ⟨_, _, _, rfl⟩⟩
  | sl => exact ⟨_, rfl, rfl, .inr ⟨_, _, _, rfl⟩⟩

theorem trod_dat : ∀ (n m : Nat) (t : TypeId) (cs : List Value) (x : DataW H × List MemPlace), DataW.trod enc P w 0 spare held n t cs = some x → plainB P m t = true → ∃ al, RepL w (fun b => b < w.heap.size) al cs ∧ Dat P t al
  | 0, _, _, _, _, h, _ => by simp [DataW.trod] at h
  | n + 1, 0, t, cs, x, h, hp => by simp [plainB] at hp
  | n + 1, m + 1, t, cs, x, h, hp => by
    have ih := trod_dat n m
    cases hu : P.underlying t with
    | none => simp [plainB, hu] at hp
    | some d =>
      simp only [plainB, hu] at hp
      cases d with
      | bool =>
        obtain ⟨b, rfl, _⟩ := DataW.trod_bool hu h
        exact ⟨[.v (.bool b)], by simp [RepL, Rep, Value.oneCell'], .bool hu⟩
      | int k =>
        obtain ⟨z, rfl, _, hw⟩ := DataW.trod_int hu h
        exact ⟨[.v (.int k z)], by simp [RepL, Rep, Value.oneCell'], .int hu hw⟩
      | string =>
        obtain ⟨s, rfl, _, hw⟩ := DataW.trod_string hu h
        exact ⟨[.v (.string s)], by simp [RepL, Rep, Value.oneCell'], .str hu hw⟩
      | slice e =>
        simp only [Bool.and_eq_true, decide_eq_true_eq] at hp
        rcases DataW.trod_slice hu h with ⟨rfl, _⟩ | ⟨a, len, cap, elems, rest, n', hn, rfl, _, hb, hl, hm, hlen, hel, _⟩
        · exact ⟨[.sl true (P.cellsOf e) []], by simp only [RepL, Rep]; exact ⟨_, _, rfl, ⟨none, 0, 0, rfl, rfl, Nat.le_refl _, Nat.zero_le _, .inl ⟨rfl, trivial, rfl, rfl⟩⟩, rfl⟩, .nilSl hu⟩
        · simp only [Nat.add_right_cancel_iff] at hn; subst hn
          have spt : 0 < len → a.spot = none := by
            intro h0
            have h1 := hel 0 h0
            rw [List.getElem?_eq_getElem (by omega)] at h1
            obtain ⟨cs', h2, h3⟩ := Option.bind_eq_some_iff.1 h1
            obtain ⟨_, g1, g2⟩ := World.cells?_some h2
            obtain ⟨v0, hv0⟩ : ∃ v, cs'[0]? = some v := ⟨_, List.getElem?_eq_getElem (by omega)⟩
            have hc0 := (g2 0 (by omega)).trans hv0
            have := World.cell?_spot hc0
            simpa [Addr.add] using this
          have each : ∀ i, i < len → ∃ e' : AV, (a.spot = none ∧ ∃ y, Rep w (fun b => b < w.heap.size) e' y ∧ y.cells.size = P.cellsOf e ∧ e'.cells.length = P.cellsOf e ∧ a.block < w.heap.size ∧ At w a.block (a.off + i * P.cellsOf e) y.cells.toList) ∧ e'.isAgg = structB P e ∧ Dat P e e'.cells := by
            intro i hi
            have hs := spt (by omega)
            have h1 := hel i hi
            rw [List.getElem?_eq_getElem (by omega)] at h1
            obtain ⟨cs', h2, h3⟩ := Option.bind_eq_some_iff.1 h1
            obtain ⟨al, k1, k2⟩ := ih _ _ _ h3 hp.2
            obtain ⟨_, g1, g2⟩ := World.cells?_some h2
            have hk := k1.length
            obtain ⟨v0, hv0⟩ : ∃ v, cs'[0]? = some v := ⟨_, List.getElem?_eq_getElem (by omega)⟩
            have hc0 := (g2 0 (by omega)).trans hv0
            have hlt : a.block < w.heap.size := by
              have := World.block_lt_of_cell? _ _ hc0
              obtain ⟨b, o, s⟩ := a
              simp only at hs; subst hs
              simpa [add_addr] using this
            have hat : At w a.block (a.off + i * P.cellsOf e) cs' := by
              intro j y hj
              have hj' := (List.getElem?_eq_some_iff.1 hj).1
              have := g2 j (by omega)
              obtain ⟨b, o, s⟩ := a
              simp only at hs; subst hs
              rw [add_addr, add_addr, hj] at this
              exact this
            cases hs' : structB P e with
            | true =>
              exact ⟨.agg al, ⟨hs, .agg cs'.toArray, by simp only [Rep]; exact ⟨_, rfl, by simpa using k1⟩, by simpa [Value.cells] using g1, by simp [AV.cells]; omega, hlt, by simpa [Value.cells] using hat⟩, rfl, k2⟩
            | false =>
              obtain ⟨c, rfl, hna, hc⟩ := k2.one hs'
              simp only [RepL] at k1
              obtain ⟨y, ys, rfl, k1, rfl⟩ := k1
              have hy : y.cells = #[y] ∧ c.cells = [c] := by
                rcases hc with ⟨x, rfl⟩ | ⟨nl, sz, es, rfl⟩
                · simp only [Rep] at k1
                  obtain ⟨rfl, k1⟩ := k1
                  cases y <;> simp [Value.oneCell'] at k1 <;> simp [Value.cells, AV.cells]
                · simp only [Rep] at k1
                  obtain ⟨_, _, _, rfl, _⟩ := k1
                  simp [Value.cells, AV.cells]
              exact ⟨c, ⟨hs, y, k1, by rw [hy.1]; simpa using g1, by rw [hy.2]; simpa using g1, hlt, by rw [hy.1]; exact hat⟩, hna, by rw [hy.2]; exact k2⟩
          obtain ⟨es, q1, q2⟩ := choose_list len each
          refine ⟨[.sl false (P.cellsOf e) es], ?_, .sl hu (by omega) (fun x hx => ?_) (fun x hx => ?_)⟩
          · simp only [RepL]
            refine ⟨_, _, rfl, ?_, rfl⟩
            simp only [Rep]
            refine ⟨some a, len, cap, rfl, q1.symm, hl, hm, .inr ?_⟩
            by_cases hz : len = 0
            · exact .inr ⟨⟨a, rfl⟩, trivial, List.length_eq_zero_iff.1 (by omega)⟩
            · refine .inl ⟨a.block, a.off, ?_, trivial, RepRow.mk fun i e' hi => ?_⟩
              · obtain ⟨z, hz'⟩ : ∃ z, es[0]? = some z := ⟨_, List.getElem?_eq_getElem (by omega)⟩
                have := (q2 0 z hz').1.1
                obtain ⟨b, o, s⟩ := a
                simp only at this; subst this; rfl
              · exact (q2 i e' hi).1.2
          · obtain ⟨i, hi⟩ := List.getElem?_of_mem hx
            exact (q2 i x hi).2.1
          · obtain ⟨i, hi⟩ := List.getElem?_of_mem hx
            exact (q2 i x hi).2.2
      | struct fs =>
        simp only [Bool.and_eq_true] at hp
        obtain ⟨xs, n', hn, _, hl, hxl, hf⟩ := DataW.trod_struct hu h
        simp only [Nat.add_right_cancel_iff] at hn; subst hn
        obtain ⟨pss, k1, k2, k3⟩ := trod_fields (fun t cs x hx hp => ih t cs x hx hp) fs.toList 0 cs (by rw [hl]; exact hp.1) hp.2 (fun i f hi => by
          have hi' : fs[i]? = some f := by simpa using hi
          have := hf i f hi'
          have hlt := (Array.getElem?_eq_some_iff.1 hi').1
          rw [List.getElem?_eq_getElem (by omega)] at this
          exact ⟨_, this⟩)
        exact ⟨pss.flatten, by simpa using k1, .struct hu (by simpa using k2) (fun i f ps h1 h2 => k3 i f ps (by simpa using h1) h2)⟩
      | _ => simp at hp

end

/-- A value of one argument or element. -/
def DatE (P : Program) (t : TypeId) (a : AV) : Prop := a.isAgg = structB P t ∧ Dat P t a.cells

section
variable {P : Program} {t : TypeId} {a : AV}

theorem cells_one (h : a.isAgg = false) : a.cells = [a] := by cases a <;> first | rfl | simp [AV.isAgg] at h

theorem DatE.int {k : IntKind} (h : DatE P t a) (hu : P.underlying t = some (.int k)) : ∃ n, a = .v (.int k n) ∧ (Lit.int k n).wf = true := by
  obtain ⟨h1, h2⟩ := h
  have hs : structB P t = false := by simp [structB, hu]
  rw [cells_one (h1.trans hs)] at h2
  generalize ha : [a] = l at h2
  cases h2 <;> simp_all

theorem DatE.str (h : DatE P t a) (hu : P.underlying t = some .string) : ∃ s : ByteArray, a = .v (.string s) ∧ s.size ≤ maxLen := by
  obtain ⟨h1, h2⟩ := h
  have hs : structB P t = false := by simp [structB, hu]
  rw [cells_one (h1.trans hs)] at h2
  generalize ha : [a] = l at h2
  cases h2 <;> simp_all

theorem DatE.bool (h : DatE P t a) (hu : P.underlying t = some .bool) : ∃ b, a = .v (.bool b) := by
  obtain ⟨h1, h2⟩ := h
  have hs : structB P t = false := by simp [structB, hu]
  rw [cells_one (h1.trans hs)] at h2
  generalize ha : [a] = l at h2
  cases h2 <;> simp_all

theorem DatE.slice {e : TypeId} (h : DatE P t a) (hu : P.underlying t = some (.slice e)) : ∃ nl es, a = .sl nl (P.cellsOf e) es ∧ es.length ≤ maxLen ∧ ∀ x ∈ es, DatE P e x := by
  obtain ⟨h1, h2⟩ := h
  have hs : structB P t = false := by simp [structB, hu]
  rw [cells_one (h1.trans hs)] at h2
  generalize hal : [a] = l at h2
  cases h2 with
  | nilSl hu' => rw [hu] at hu'; simp at hu' hal; subst hu'; exact ⟨true, [], hal, by simp, by simp⟩
  | sl hu' hl ha hd => rw [hu] at hu'; simp at hu' hal; subst hu'; exact ⟨false, _, hal, hl, fun x hx => ⟨ha x hx, hd x hx⟩⟩
  | struct hu' => rw [hu] at hu'; simp at hu'
  | _ => simp_all

theorem list_of {α : Type} {f : α → AV} {Q : α → Prop} : ∀ {es : List AV}, (∀ x ∈ es, ∃ y, x = f y ∧ Q y) → ∃ ys : List α, es = ys.map f ∧ ∀ y ∈ ys, Q y
  | [], _ => ⟨[], rfl, by simp⟩
  | e :: es, h => by
    obtain ⟨y, rfl, hy⟩ := h e (by simp)
    obtain ⟨ys, rfl, hys⟩ := list_of (es := es) (fun x hx => h x (by simp [hx]))
    exact ⟨y :: ys, rfl, by simpa using ⟨hy, hys⟩⟩

theorem DatE.ints {e : TypeId} (h : DatE P t a) (hu : P.underlying t = some (.slice e)) (he : P.underlying e = some (.int .i64)) (hc : P.cellsOf e = 1) :
    ∃ nl xs, a = Ax.ints nl xs ∧ xs.length ≤ maxLen ∧ ∀ x ∈ xs, (Lit.int .i64 x).wf = true := by
  obtain ⟨nl, es, rfl, hl, hes⟩ := h.slice hu
  obtain ⟨xs, rfl, hx⟩ := list_of (f := Ax.int) (Q := fun x => (Lit.int .i64 x).wf = true) (fun x hx => (hes x hx).int he)
  exact ⟨nl, xs, by rw [hc]; rfl, by simpa using hl, hx⟩

theorem DatE.two {f0 f1 : Field} (h : DatE P t a) (hu : P.underlying t = some (.struct #[f0, f1])) (h0 : P.underlying f0.type = some (.int .i64)) (h1 : P.underlying f1.type = some (.int .i64)) :
    ∃ p : Int × Int, a = .agg [Ax.int p.1, Ax.int p.2] ∧ (Lit.int .i64 p.1).wf = true ∧ (Lit.int .i64 p.2).wf = true := by
  obtain ⟨g1, g2⟩ := h
  have hs : structB P t = true := by simp [structB, hu]
  rw [hs] at g1
  cases a with
  | agg al =>
    simp only [AV.cells] at g2
    generalize has : al = al' at g2
    cases g2 with
    | @struct _ fs pss hu' hl hf =>
      rw [hu] at hu'; simp only [Option.some.injEq, TypeDesc.struct.injEq] at hu'; subst hu'
      match pss, hl with
      | [p0, p1], _ =>
        have k0 := hf 0 f0 p0 rfl rfl
        have k1 := hf 1 f1 p1 rfl rfl
        have d0 : ∃ n, p0 = [.v (.int .i64 n)] ∧ (Lit.int .i64 n).wf = true := by cases k0 <;> simp_all
        have d1 : ∃ n, p1 = [.v (.int .i64 n)] ∧ (Lit.int .i64 n).wf = true := by cases k1 <;> simp_all
        obtain ⟨n0, rfl, w0⟩ := d0
        obtain ⟨n1, rfl, w1⟩ := d1
        exact ⟨(n0, n1), by simp [Ax.int], w0, w1⟩
    | _ => simp_all
  | _ => simp [AV.isAgg] at g1
end

end Go.Proofs.YtkfgmpmeipilnaaDoor.Ax

/-
  From a law's contract to the statement's form: whatever arguments read as data of plain types, the call returns true and turns nothing that was there. No condition.
-/
namespace Go.Proofs.YtkfgmpmeipilnaaDoor.Ax
open Go Go.RowKit Go.ChangeShapes Go.WideShapes Go.ChangeAt

def DatL (P : Program) : List TypeId → List AV → Prop
  | [], al => al = []
  | t :: ts, al => ∃ a al', al = a :: al' ∧ DatE P t a ∧ DatL P ts al'

section
variable {H : Type} {enc : TypeId × Value → H} {P : Program} {w : World} {spare : Nat → Bool} {held : Bool}

theorem trod_arg {t : TypeId} {v : Value} {d : DataW H} {ps : List MemPlace} {r : Reach} {base : Nat} (h : DataW.Trod enc P w 0 spare held t v d ps) {m : Nat} (hp : plainB P m t = true) (hv : Value.okWide P w r base t v) :
    ∃ a : AV, Rep w (fun b => b < w.heap.size) a v ∧ a.isAgg = structB P t ∧ Dat P t a.cells := by
  obtain ⟨fuel, hf⟩ := h
  obtain ⟨al, h1, h2⟩ := trod_dat fuel m t _ _ hf hp
  cases m with
  | zero => simp [plainB] at hp
  | succ m =>
    cases hs : structB P t with
    | true =>
      unfold structB at hs
      split at hs
      · rename_i fs hu
        simp only [Value.okWide, hu] at hv
        obtain ⟨cs, rfl, _⟩ := hv
        exact ⟨.agg al, by simp only [Rep]; exact ⟨_, rfl, by simpa [Value.cells] using h1⟩, rfl, h2⟩
      · simp at hs
    | false =>
      obtain ⟨a, rfl, ha, hc⟩ := h2.one hs
      simp only [RepL] at h1
      obtain ⟨y, ys, hy, h1, rfl⟩ := h1
      have hvy : v.cells = #[v] := by
        cases hu : P.underlying t with
        | none => simp [plainB, hu] at hp
        | some d =>
          cases d with
          | bool => obtain ⟨b, rfl⟩ := okWide_bool hu hv; rfl
          | int k => obtain ⟨b, rfl⟩ := okWide_int hu hv; rfl
          | string => obtain ⟨b, rfl⟩ := okWide_string hu hv; rfl
          | slice e => obtain ⟨a, b, c, rfl⟩ := okWide_slice hu hv; rfl
          | struct fs => simp [structB, hu] at hs
          | _ => simp [plainB, hu] at hp
      rw [hvy] at hy
      simp only [List.cons.injEq, and_true] at hy
      subst hy
      have : a.cells = [a] := by rcases hc with ⟨x, rfl⟩ | ⟨_, _, _, rfl⟩ <;> rfl
      exact ⟨a, h1, ha, by rw [this]; exact h2⟩

theorem trod_args : ∀ {ts : List TypeId} {vs : List Value} {ds : List (DataW H)} {ps : List MemPlace} {r : Reach} {base : Nat}, DataW.TrodAll enc P w 0 spare held ts vs ds ps → ts.all (plainB P 30) = true →
    (∀ (j : Nat) t v, ts[j]? = some t → vs[j]? = some v → Value.okWide P w r base t v) → ∃ al, RepL w (fun b => b < w.heap.size) al vs ∧ DatL P ts al
  | [], [], [], _, _, _, h, _, _ => ⟨[], by simp [RepL], by simp [DatL]⟩
  | t :: ts, v :: vs, d :: ds, ps, r, base, h, hp, hv => by
    simp only [DataW.TrodAll] at h
    obtain ⟨p, q, h1, h2, rfl⟩ := h
    simp only [List.all_cons, Bool.and_eq_true] at hp
    obtain ⟨a, k1, k2⟩ := trod_arg h1 hp.1 (hv 0 t v rfl rfl)
    obtain ⟨al, k3, k4⟩ := trod_args h2 hp.2 (fun j t v ht hv' => hv (j + 1) t v (by simpa using ht) (by simpa using hv'))
    exact ⟨a :: al, by simp only [RepL]; exact ⟨v, vs, rfl, k1, k3⟩, by simp only [DatL]; exact ⟨a, al, rfl, k2, k4⟩⟩
  | [], _ :: _, _, _, _, _, h, _, _ => by simp [DataW.TrodAll] at h
  | [], [], _ :: _, _, _, _, h, _, _ => by simp [DataW.TrodAll] at h
  | _ :: _, [], _, _, _, _, h, _, _ => by simp [DataW.TrodAll] at h
  | _ :: _, _ :: _, [], _, _, _, h, _, _ => by simp [DataW.TrodAll] at h

theorem trodAll_below {W W' : World} (hl : laidOutB P = true) (hb : Below W.heap.size W W') : ∀ {ts : List TypeId} {vs : List Value} {ds : List (DataW H)} {ps : List MemPlace}, DataW.TrodAll enc P W 0 (fun _ => true) true ts vs ds ps →
    ts.all (fun t => P.readableRec t && decide (t < P.types.size)) = true → DataW.TrodAll enc P W' 0 (fun b => decide (b < W.heap.size)) true ts vs ds ps
  | [], [], [], _, h, _ => by simpa [DataW.TrodAll] using h
  | t :: ts, v :: vs, d :: ds, ps, h, hp => by
    simp only [DataW.TrodAll] at h ⊢
    obtain ⟨p, q, h1, h2, rfl⟩ := h
    simp only [List.all_cons, Bool.and_eq_true, decide_eq_true_eq] at hp
    exact ⟨p, q, Below.trod hl hp.1.1 hp.1.2 h1 hb (by obtain ⟨m, hm⟩ := h1; exact DataW.trod_lt m _ _ _ hm), trodAll_below hl hb h2 hp.2, rfl⟩
  | [], _ :: _, _, _, h, _ => by simp [DataW.TrodAll] at h
  | [], [], _ :: _, _, h, _ => by simp [DataW.TrodAll] at h
  | _ :: _, [], _, _, h, _ => by simp [DataW.TrodAll] at h
  | _ :: _, _ :: _, [], _, h, _ => by simp [DataW.TrodAll] at h

theorem trodAll_len : ∀ {ts : List TypeId} {vs : List Value} {ds : List (DataW H)} {ps : List MemPlace}, DataW.TrodAll enc P w 0 spare held ts vs ds ps → ds.length = ts.length
  | [], [], [], _, _ => rfl
  | t :: ts, v :: vs, d :: ds, ps, h => by
    simp only [DataW.TrodAll] at h
    obtain ⟨p, q, h1, h2, rfl⟩ := h
    simp [trodAll_len h2]
  | [], _ :: _, _, _, h => by simp [DataW.TrodAll] at h
  | [], [], _ :: _, _, h => by simp [DataW.TrodAll] at h
  | _ :: _, [], _, _, h => by simp [DataW.TrodAll] at h
  | _ :: _, _ :: _, [], _, h => by simp [DataW.TrodAll] at h
end

theorem below_of_frm {W W' : World} (h : Frm (fun _ => False) W W') : Below W.heap.size W W' := ⟨h.os, h.tape, h.output, h.size, fun k hk => h.block k hk (fun h => h)⟩

theorem framed {C : Checked} {os : Os} {started : os.Started} {H : Type} {enc : TypeId × Value → H} {f : FuncId} {fn : Func} {s : ChangeSpec} {conds : List PathCond} {tb : TypeId}
    (own : ownKnob C.prog.godebug = none) (noInit : C.prog.inits.idxOf? f = none) (hfn : C.prog.funcs[f]? = some fn)
    (witness : ∃ (w : World) (tape : Tape) (i : Input), w.os = os ∧ (w.forCall tape i).Shaped C.prog ∧ i.vars = [] ∧ Input.okWide C.prog (w.forCall tape i) .any w.heap.size f i ∧
      s.pre6 enc C.prog fn conds false (w.forCall tape i).memory i.args ∧ ({} : Assume).holds C.prog (lone (Frame.enter C.prog f i.args .normal) [] (w.forCall tape i)))
    (hl : laidOutB C.prog = true) (hp : fn.params.toList.all (plainB C.prog 30) = true) (hr : fn.params.toList.all (fun t => C.prog.readableRec t && decide (t < C.prog.types.size)) = true)
    (hres : fn.resultTypes = #[tb]) (hb : C.prog.underlying tb = some .bool) (hvars : s.vars = [])
    (hspec : ∀ ds : List (DataW H), ds.length = fn.params.toList.length → s.fn H ds = { results := [.lit (.bool true)], args := ds })
    (noTab : Tryd.prog.globalNamed "internal/strconv.uint64pow10" = none)
    (law : ∀ al, DatL C.prog fn.params.toList al → CallOk C.prog f al (.v (.bool true))) :
    ReturnsInHanded {} C os f .any (s.pre6 enc C.prog fn conds false) (s.post enc C.prog fn false true false false) := by
  refine returnsInHanded_of_change (C := C) own started noInit hfn witness ?_
  intro W base args ds gs before hval hW _ _
  have hW' := hW
  obtain ⟨p, q, hA, hV, rfl, _, _⟩ := hW
  rw [hvars] at hV
  obtain ⟨rfl, rfl⟩ := trodVars_none hV
  obtain ⟨al, h1, h2⟩ := trod_args hA hp (fun j t v ht hv => hval j t v (by simpa using ht) (by simpa using hv))
  refine ((law al h2).2 W (fun b => b < W.heap.size) args ⟨fun _ h => h, fun g hg => by rw [noTab] at hg; cases hg⟩ h1).mono fun e W' ⟨y, S, he, hf, _, ho⟩ => ?_
  simp only [Own] at ho
  obtain ⟨rfl, _⟩ := ho
  have bel := below_of_frm hf
  refine ⟨_, he, ds, [], p ++ [], [], p, [], hW', ?_, ?_, ?_, bel.frame _, fun h => by cases h⟩
  · rw [List.append_nil, hspec ds (trodAll_len hA), hres]
    exact trodAll_mk1 ⟨1, by simp [DataW.trod, Value.cells, hb]⟩
  · rw [List.append_nil, hspec ds (trodAll_len hA)]
    exact trodAll_below hl bel hA hr
  · rw [List.append_nil, hspec ds (trodAll_len hA), hvars]
    simp [DataW.TrodVars]

end Go.Proofs.YtkfgmpmeipilnaaDoor.Ax

/-
  Ways of a run that depend on what is not known; the lengths of what is handed to a function; loops that count. No condition.
-/
namespace Go.Proofs.YtkfgmpmeipilnaaDoor.Ax
open Go Go.RowKit

section
variable {live : List Bool} {Q : Exit → ASt → Prop} {f : ASt → Option ASt}
theorem regS_ite {p : Prop} [Decidable p] {x y : Option ASt} : regS live Q (bindS f (if p then x else y)) = ((p → regS live Q (bindS f x)) ∧ (¬ p → regS live Q (bindS f y))) := by
  by_cases h : p <;> simp [h]
theorem pickAV_bool {t a b : Bool} : pickAV t (.v (.bool a)) (.v (.bool b)) = .v (.bool (bif t then a else b)) := by cases t <;> rfl
end

theorem allS_map {xs : List Int} : allS (xs.map fun n => .v (.int .i64 n)) = true := by simp [allS, scal]
theorem allS_v {x : Value} : allS [.v x] = true := rfl
theorem allS_rep {x : Value} {n : Nat} : allS (List.replicate n (.v x)) = true := by simp [allS, scal]
theorem allS_repA {xs : List Value} {n : Nat} : allS (List.replicate n (.agg (xs.map .v))) = true := by simp [allS, scal]
theorem allS_take {es : List AV} {n : Nat} (h : allS es = true) : allS (es.take n) = true := by
  simp only [allS, List.all_eq_true] at h ⊢
  exact fun e he => h e (List.mem_of_mem_take he)
theorem nn1 {k : Nat} : (0 ≤ (k : Int) + 1) = True := by simp; omega
theorem tn1 {k : Nat} : ((k : Int) + 1).toNat = k + 1 := by omega

theorem nz1 {k : Nat} : (((k : Int) + 1) == 0) = false := by simp; omega
theorem nz1' {k : Nat} : ((k : Int) + 1 = 0) = False := by simp; omega
theorem lt1 {a b : Nat} : ((a : Int) + 1 < (b : Int)) = (a + 1 < b) := by simp; omega

mutual
/-- Every slice in it is no longer than a slice may be, and a nil one is empty. -/
def lens : AV → Prop
  | .v _ => True
  | .agg cs => lensL cs
  | .tup cs => lensL cs
  | .sl nl _ es => (es.length ≤ 9223372036854775807 ∧ (nl = true → es = [])) ∧ lensL es
  | .fp e _ => lens e
  | .fn _ cs => lensL cs
  | .ref _ _ _ _ => True
  | .ptr _ _ _ _ => True
  | .junk => True
def lensL : List AV → Prop
  | [] => True
  | c :: cs => lens c ∧ lensL cs
end

theorem lensL_iff : ∀ {l : List AV}, lensL l ↔ ∀ x ∈ l, lens x
  | [] => by simp [lensL]
  | c :: cs => by simp [lensL, lensL_iff (l := cs)]

mutual
theorem Rep.lens {w : World} {F : Nat → Prop} : ∀ (a : AV) (y : Value), Rep w F a y → Ax.lens a
  | .v _, _, _ => by simp [Ax.lens]
  | .agg cs, y, k => by simp only [Rep, Ax.lens] at k ⊢; obtain ⟨ys, rfl, k⟩ := k; exact RepL.lens cs _ k
  | .tup cs, y, k => by simp only [Rep, Ax.lens] at k ⊢; obtain ⟨ys, rfl, k⟩ := k; exact RepL.lens cs _ k
  | .sl nl sz es, y, k => by
    simp only [Rep, Ax.lens] at k ⊢
    obtain ⟨a, len, cap, rfl, h1, h2, h3, k⟩ := k
    refine ⟨⟨by simp only [maxLen] at h3; omega, fun hnl => ?_⟩, ?_⟩
    · rcases k with ⟨_, _, h, _⟩ | ⟨_, _, _, h, _⟩ | ⟨_, h, _⟩
      · exact List.length_eq_zero_iff.1 (by omega)
      · rw [h] at hnl; simp at hnl
      · rw [h] at hnl; simp at hnl
    · rcases k with ⟨_, _, h, _⟩ | ⟨b, o, _, _, k⟩ | ⟨_, _, h⟩
      · rw [List.length_eq_zero_iff.1 (show es.length = 0 by omega)]; simp [lensL]
      · exact RepRow.lens b sz o es k
      · rw [h]; simp [lensL]
  | .fp e j, y, k => by simp only [Rep, Ax.lens] at k ⊢; obtain ⟨b, o, x, rfl, k, _⟩ := k; exact Rep.lens e x k
  | .fn f cs, y, k => by simp only [Rep, Ax.lens] at k ⊢; obtain ⟨ys, rfl, k⟩ := k; exact RepL.lens cs _ k
  | .ref _ _ _ _, _, _ => by simp [Ax.lens]
  | .ptr _ _ _ _, _, _ => by simp [Ax.lens]
  | .junk, _, _ => by simp [Ax.lens]
theorem RepL.lens {w : World} {F : Nat → Prop} : ∀ (a : List AV) (y : List Value), RepL w F a y → lensL a
  | [], _, _ => by simp [lensL]
  | c :: cs, y, k => by
    simp only [RepL, lensL] at k ⊢
    obtain ⟨y, ys, rfl, k1, k2⟩ := k
    exact ⟨Rep.lens c y k1, RepL.lens cs ys k2⟩
theorem RepRow.lens {w : World} {F : Nat → Prop} (b sz : Nat) : ∀ (o : Nat) (es : List AV), RepRow w F b sz o es → lensL es
  | _, [], _ => by simp [lensL]
  | o, e :: es, k => by
    simp only [RepRow, lensL] at k ⊢
    obtain ⟨⟨x, k1, _⟩, k2⟩ := k
    exact ⟨Rep.lens e x k1, RepRow.lens b sz (o + sz) es k2⟩
end

theorem lensL_map {α : Type} {f : α → AV} {l : List α} : lensL (l.map f) ↔ ∀ x ∈ l, lens (f x) := by simp [lensL_iff]

section
variable {P : Program} {C : Ctx}
/-- The contract of a function, by the run of its body; what is handed to it is no longer than may be. -/
theorem callOk_awp (hC : C.Ok P) (hm : P.follows .mixedOrders = true) {live : List Bool} {dt : List (Nat × RD)} {f : FuncId} {fn : Func} {c : Code} {args : List AV} {r : AV} (hf : P.funcs[f]? = some fn) (hb : fn.body = some c) (hname : (fn.name == "runtime.NumGoroutine") = false) (hck : codeOk dt [] c = true)
    (h : ∀ w0, lensL args → awp P C live (noLd dt) w0 c ⟨args ++ List.replicate (fn.ntmps - args.length) .junk, []⟩ (doneS C fn.results.toList r)) : CallOk P f args r := by
  by_cases hl : lensL args
  · exact callOk_of_awp hC hm hf hb hname hck fun w0 => h w0 hl
  · refine ⟨⟨fn, hf, hname, by rw [hb]; rfl⟩, fun w F vals hF hvals => (hl (RepL.lens _ _ hvals)).elim⟩

/-- The same, for a function whose result is only read. -/
theorem frzOk_awp (hC : C.Ok P) (hm : P.follows .mixedOrders = true) {live : List Bool} {dt : List (Nat × RD)} {f : FuncId} {fn : Func} {c : Code} {args : List AV} {r : AV} (hf : P.funcs[f]? = some fn) (hb : fn.body = some c) (hname : (fn.name == "runtime.NumGoroutine") = false) (hck : codeOk dt [] c = true)
    (h : ∀ A w0, lensL args → awp P C live (frzLd A dt) w0 c ⟨args ++ List.replicate (fn.ntmps - args.length) .junk, []⟩ (doneF C fn.results.toList r)) : FrzOk P f args true r := by
  by_cases hl : lensL args
  · exact frzOk_of_awp hC hm hf hb hname hck fun A w0 => h A w0 hl
  · refine ⟨⟨fn, hf, hname, by rw [hb]; rfl⟩, fun w F vals hF hvals => (hl (RepL.lens _ _ hvals)).elim⟩

theorem inBlock_mono {id : Nat} {Q Q' : Exit → ASt → Prop} (h : ∀ e s, Q e s → Q' e s) : ∀ e s, inBlock id Q e s → inBlock id Q' e s
  | .normal, s, k => h _ s k
  | .exit id', s, k => by
    simp only [inBlock] at k ⊢
    split
    · rename_i e; rw [if_pos e] at k; exact h _ _ k
    · rename_i e; rw [if_neg e] at k; exact h _ _ k
  | .goto _, _, k => h _ _ k
  | .ret, _, k => h _ _ k
  | .panic _, _, k => h _ _ k
  | .outgrown, _, k => h _ _ k

theorem andThen_imp {N N' : ASt → Prop} {Q Q' : Exit → ASt → Prop} (hn : ∀ s, N s → N' s) (h : ∀ e s, Q e s → Q' e s) : ∀ e s, andThen N Q e s → andThen N' Q' e s
  | .normal, s, k => hn s k
  | .exit _, _, k => h _ _ k
  | .goto _, _, k => h _ _ k
  | .ret, _, k => h _ _ k
  | .panic _, _, k => h _ _ k
  | .outgrown, _, k => h _ _ k

theorem awp_mono {live : List Bool} {U : Ld} {w0 : World} : ∀ (c : Code) (st : ASt) (Q Q' : Exit → ASt → Prop), awp P C live U w0 c st Q → (∀ e s, Q e s → Q' e s) → awp P C live U w0 c st Q'
  | .skip, _, _, _, h, hq => hq _ _ h
  | .region _ _ _, _, _, _, h, hq => by obtain ⟨fin, h1, h2⟩ := h; exact ⟨fin, h1, hq _ _ h2⟩
  | .seq x y, st, _, _, h, hq => awp_mono x st _ _ h (andThen_imp (fun s hs => awp_mono y s _ _ hs hq) hq)
  | .cond c x y, st, _, _, h, hq => by
    obtain ⟨t, h1, h2, h3⟩ := h
    exact ⟨t, h1, fun ht => awp_mono x st _ _ (h2 ht) hq, fun ht => awp_mono y st _ _ (h3 ht) hq⟩
  | .block id x, st, _, _, h, hq => awp_mono x st _ _ h (inBlock_mono hq)
  | .exit _, _, _, _, h, hq => hq _ _ h
  | .ret, _, _, _, h, hq => hq _ _ h
  | .loop _, _, _, _, h, hq => Tr.weak h hq
  | .rangeFunc _ _ _ _, _, _, _, h, hq => Tr.weak h hq
  | .scope _, _, _, _, h, hq => Tr.weak h hq
  | .label _, _, _, _, h, hq => Tr.weak h hq
  | .goto _, _, _, _, h, hq => Tr.weak h hq
  | .refuse _, _, _, _, h, hq => Tr.weak h hq

/-- Behind a round of a loop that counts. -/
def rngS (N : ASt → Prop) (Q : Exit → ASt → Prop) : Exit → ASt → Prop := andThen N Q
theorem rngS_normal {N : ASt → Prop} {Q : Exit → ASt → Prop} {s : ASt} : rngS N Q .normal s = N s := rfl
theorem rngS_exit {N : ASt → Prop} {Q : Exit → ASt → Prop} {s : ASt} {id : Nat} : rngS N Q (.exit id) s = Q (.exit id) s := rfl
theorem rngS_ret {N : ASt → Prop} {Q : Exit → ASt → Prop} {s : ASt} : rngS N Q .ret s = Q .ret s := rfl

/-- A loop that counts from 0 to n. -/
theorem awp_range (hC : C.Ok P) (hm : P.follows .mixedOrders = true) {live : List Bool} {U : Ld} {w0 : World} (lv : List Bool) {c : Code} {st : ASt} {Q : Exit → ASt → Prop} (n : Nat) (p : Nat → Prop) (I : Nat → ASt) (hn : n ≤ 9223372036854775807)
    (h0 : sub (clean lv st) (I 0)) (hp : p 0)
    (hstep : ∀ k, k < n → p k → IntKind.i64.wrap ((k : Int) + 1) = (k : Int) + 1 → awp P C live U w0 c (I k) (rngS (fun s => sub (clean lv s) (I (k + 1)) ∧ p (k + 1)) Q))
    (hend : p n → awp P C live U w0 c (I n) (rngS (fun _ => False) Q)) : Tr P U w0 (.loop c) st Q := by
  refine awp_loop_of (live := live) hC hm lv (α := {k : Nat // k ≤ n ∧ p k}) (fun k => I k.1) (fun k => n - k.1) ⟨0, Nat.zero_le _, hp⟩ h0 ?_
  rintro ⟨k, hk, hpk⟩
  by_cases h : k < n
  · exact awp_mono _ _ _ _ (hstep k h hpk (wrapI (by omega) (by omega))) (andThen_mono fun s hs => ⟨⟨k + 1, h, hs.2⟩, hs.1, by simp; omega⟩)
  · obtain rfl : k = n := by omega
    exact awp_mono _ _ _ _ (hend hpk) (andThen_mono fun s hs => hs.elim)
end

end Go.Proofs.YtkfgmpmeipilnaaDoor.Ax
