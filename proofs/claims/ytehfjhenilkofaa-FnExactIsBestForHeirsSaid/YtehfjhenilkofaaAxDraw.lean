/-
  A region whose order is open: whatever order its edges allow comes to what the order of the text comes to. No condition.
-/
import Derived.Test.YtehfjhenilkofaaAxRegion
namespace Go.Proofs.Ytehfjhenilkofaa.Ax
open Go Go.RowKit

/-- 0: it only looks; 1: it may make a row; 2: it writes. -/
def cls : Op → Nat
  | .alloc _ => 1
  | .box _ _ => 1
  | .call c => (match c.callee with
    | .builtin .len => 0
    | .builtin .max => 0
    | .builtin .min => 0
    | .value _ => 1
    | _ => 2)
  | .move _ => 0
  | .assign _ => 0
  | .pick _ _ _ => 0
  | .binOp _ _ _ _ _ => 0
  | .unOp _ _ _ => 0
  | .indexAddr _ _ _ => 0
  | .load _ _ => 0
  | .makeFunc _ _ _ => 0
  | .fieldAddr _ _ _ => 0
  | .extract _ _ => 0
  | .slice _ _ _ _ _ => 0
  | .build _ _ => 0
  | .makeSlice _ _ _ => 1
  | .buildSlice _ _ _ => 1
  | _ => 2

mutual
def inRange (n : Nat) : AV → Prop
  | .agg cs => inRangeL n cs
  | .tup cs => inRangeL n cs
  | .fn _ cs => inRangeL n cs
  | .ref t _ _ _ => t < n
  | .ptr t _ _ _ => t < n
  | _ => True
def inRangeL (n : Nat) : List AV → Prop
  | [] => True
  | c :: cs => inRange n c ∧ inRangeL n cs
end

mutual
theorem SRep.inRange {w : World} {E : Env} {toks : List Tok} : ∀ (x : AV) (y : Value), SRep w E toks x y → Ax.inRange toks.length x
  | .v _, _, _ => by simp [Ax.inRange]
  | .agg cs, y, k => by simp only [SRep, Ax.inRange] at k ⊢; obtain ⟨ys, rfl, k⟩ := k; exact SRepL.inRange cs _ k
  | .tup cs, y, k => by simp only [SRep, Ax.inRange] at k ⊢; obtain ⟨ys, rfl, k⟩ := k; exact SRepL.inRange cs _ k
  | .sl nl sz es, y, _ => by simp [Ax.inRange]
  | .fp e j, y, _ => by simp [Ax.inRange]
  | .fn f cs, y, k => by simp only [SRep, Ax.inRange] at k ⊢; obtain ⟨ys, rfl, k⟩ := k; exact SRepL.inRange cs _ k
  | .ref t p lo n, y, k => by simp only [SRep, Ax.inRange] at k ⊢; exact k.1
  | .ptr t p i j, y, k => by simp only [SRep, Ax.inRange] at k ⊢; exact k.1
  | .junk, _, _ => by simp [Ax.inRange]
theorem SRepL.inRange {w : World} {E : Env} {toks : List Tok} : ∀ (x : List AV) (y : List Value), SRepL w E toks x y → Ax.inRangeL toks.length x
  | [], _, _ => by simp [Ax.inRangeL]
  | c :: cs, y, k => by
    simp only [SRepL, Ax.inRangeL] at k ⊢
    obtain ⟨y, ys, rfl, k1, k2⟩ := k
    exact ⟨SRep.inRange c y k1, SRepL.inRange cs ys k2⟩
end

theorem lenAV_app {toks m : List Tok} {x : AV} (h : inRange toks.length x) : lenAV (toks ++ m) x = lenAV toks x := by
  cases x <;> simp only [lenAV]
  rename_i t p lo n
  simp only [inRange] at h
  rw [List.getElem?_append_left h]

section
variable {C : Ctx} [hM : NoM C]

/-- What an operation that does not write gives hangs on its operands alone. -/
theorem aop_local {op : Op} {slots : List AV} {toks : List Tok} {r : Out} (hc : cls op ≠ 2) (h : aop C op slots toks = some r) :
    r.slots = slots ∧ (∃ m, r.toks = toks ++ m ∧ (cls op = 0 → m = [])) ∧ ∀ slots', (∀ x ∈ op.operands.toList, ev slots' x = ev slots x) → aop C op slots' toks = some ⟨r.val, slots', r.toks⟩ := by
  cases op with
  | move x => simp only [aop, Option.some.injEq] at h ⊢; subst h; exact ⟨rfl, ⟨[], by simp⟩, fun s hs => by rw [hs x (by simp [Op.operands])]⟩
  | assign x => simp only [aop, Option.some.injEq] at h ⊢; subst h; exact ⟨rfl, ⟨[], by simp⟩, fun s hs => by rw [hs x (by simp [Op.operands])]⟩
  | pick c x y =>
    simp only [aop] at h ⊢
    split at h
    · rename_i t ht
      simp only [Option.some.injEq] at h; subst h
      exact ⟨rfl, ⟨[], by simp⟩, fun s hs => by rw [hs c (by simp [Op.operands]), hs x (by simp [Op.operands]), hs y (by simp [Op.operands]), ht]⟩
    · simp at h
  | binOp op t x y t' =>
    have key : ∀ s, ev s x = ev slots x → ev s y = ev slots y → aop C (.binOp op t x y t') s toks = (aop C (.binOp op t x y t') slots toks).map fun r => ⟨r.val, s, r.toks⟩ := by
      intro s h1 h2
      simp only [aop, h1, h2]
      (repeat' split) <;> simp_all
    have hsl : r.slots = slots ∧ r.toks = toks := by
      simp only [aop] at h
      (repeat' split at h) <;> first | (simp at h; done) | (simp only [Option.some.injEq] at h; subst h; exact ⟨rfl, rfl⟩)
    exact ⟨hsl.1, ⟨[], by simp [hsl.2]⟩, fun s hs => by rw [key s (hs x (by simp [Op.operands])) (hs y (by simp [Op.operands])), h]; rfl⟩
  | fieldAddr t x f =>
    have key : ∀ s, ev s x = ev slots x → aop C (.fieldAddr t x f) s toks = (aop C (.fieldAddr t x f) slots toks).map fun r => ⟨r.val, s, r.toks⟩ := by
      intro s h1
      simp only [aop, h1]
      (repeat' split) <;> simp_all
    have hsl : r.slots = slots ∧ r.toks = toks := by
      simp only [aop] at h
      (repeat' split at h) <;> first | (simp at h; done) | (simp only [Option.some.injEq] at h; subst h; exact ⟨rfl, rfl⟩)
    exact ⟨hsl.1, ⟨[], by simp [hsl.2]⟩, fun s hs => by rw [key s (hs x (by simp [Op.operands])), h]; rfl⟩
  | slice t x lo hi mx =>
    have key : ∀ s, ev s x = ev slots x → (∀ d, bndOf s d lo = bndOf slots d lo) → (∀ d, bndOf s d hi = bndOf slots d hi) → aop C (.slice t x lo hi mx) s toks = (aop C (.slice t x lo hi mx) slots toks).map fun r => ⟨r.val, s, r.toks⟩ := by
      intro s h1 h2 h3
      cases mx with
      | some m => simp [aop]
      | none =>
        simp only [aop, h1, h2, h3]
        (repeat' split) <;> simp_all
    have hsl : r.slots = slots ∧ r.toks = toks := by
      cases mx with
      | some m => simp [aop] at h
      | none =>
        simp only [aop] at h
        (repeat' split at h) <;> first | (simp at h; done) | (simp only [Option.some.injEq] at h; subst h; exact ⟨rfl, rfl⟩)
    exact ⟨hsl.1, ⟨[], by simp [hsl.2]⟩, fun s hs => by
      have e1 : ∀ d, bndOf s d lo = bndOf slots d lo := fun d => by
        cases lo with
        | none => rfl
        | some y => simp only [bndOf]; rw [hs y (by simp [Op.operands])]
      have e2 : ∀ d, bndOf s d hi = bndOf slots d hi := fun d => by
        cases hi with
        | none => rfl
        | some y => simp only [bndOf]; rw [hs y (by simp [Op.operands])]
      rw [key s (hs x (by simp [Op.operands])) e1 e2, h]; rfl⟩
  | extract x i =>
    have key : ∀ s, ev s x = ev slots x → aop C (.extract x i) s toks = (aop C (.extract x i) slots toks).map fun r => ⟨r.val, s, r.toks⟩ := by
      intro s h1
      simp only [aop, h1]
      (repeat' split) <;> simp_all
    have hsl : r.slots = slots ∧ r.toks = toks := by
      simp only [aop] at h
      (repeat' split at h) <;> first | (simp at h; done) | (simp only [Option.some.injEq] at h; subst h; exact ⟨rfl, rfl⟩)
    exact ⟨hsl.1, ⟨[], by simp [hsl.2]⟩, fun s hs => by rw [key s (hs x (by simp [Op.operands])), h]; rfl⟩
  | makeSlice t l c =>
    have key : ∀ s, ev s l = ev slots l → ev s c = ev slots c → aop C (.makeSlice t l c) s toks = (aop C (.makeSlice t l c) slots toks).map fun r => ⟨r.val, s, r.toks⟩ := by
      intro s h1 h2
      simp only [aop, h1, h2]
      (repeat' split) <;> simp_all
    have hsl : r.slots = slots ∧ ∃ m, r.toks = toks ++ m := by
      simp only [aop] at h
      (repeat' split at h) <;> first | (simp at h; done) | (simp only [Option.some.injEq] at h; subst h; exact ⟨rfl, _, rfl⟩)
    obtain ⟨h1, m, h2⟩ := hsl
    exact ⟨h1, ⟨m, h2, by simp [cls]⟩, fun s hs => by rw [key s (hs l (by simp [Op.operands])) (hs c (by simp [Op.operands])), h]; rfl⟩
  | build t parts =>
    have key : ∀ s, (∀ p ∈ parts.toList, ev s p.2 = ev slots p.2) → aop C (.build t parts) s toks = (aop C (.build t parts) slots toks).map fun r => ⟨r.val, s, r.toks⟩ := by
      intro s h1
      have e1 : (parts.toList.map fun p => (p.1, ev s p.2)) = parts.toList.map fun p => (p.1, ev slots p.2) := List.map_congr_left fun p hp => by rw [h1 p hp]
      have e2 : (parts.toList.all fun p => partOk toks (ev s p.2)) = parts.toList.all fun p => partOk toks (ev slots p.2) := by
        rw [Bool.eq_iff_iff, List.all_eq_true, List.all_eq_true]
        exact ⟨fun h p hp => by rw [← h1 p hp]; exact h p hp, fun h p hp => by rw [h1 p hp]; exact h p hp⟩
      simp only [aop, e1, e2]
      (repeat' split) <;> simp [Function.comp_def]
    have hsl : r.slots = slots ∧ r.toks = toks := by
      simp only [aop] at h
      (repeat' split at h) <;> first | (simp at h; done) | (simp only [Option.map_eq_some_iff] at h; obtain ⟨_, _, rfl⟩ := h; exact ⟨rfl, rfl⟩)
    exact ⟨hsl.1, ⟨[], by simp [hsl.2]⟩, fun s hs => by rw [key s (fun p hp => hs p.2 (by simp only [Op.operands]; exact List.mem_map.2 ⟨p, hp, rfl⟩)), h]; rfl⟩
  | buildSlice t len parts =>
    have e1 : ∀ s, (∀ x ∈ (Op.buildSlice t len parts).operands.toList, ev s x = ev slots x) → (parts.toList.map fun p => ev s p.2) = parts.toList.map fun p => ev slots p.2 := fun s hs =>
      List.map_congr_left fun p hp => hs p.2 (by simp only [Op.operands]; simp; exact ⟨p.1, by simpa using hp⟩)
    simp only [aop] at h ⊢
    split at h
    rotate_left
    · simp at h
    split at h
    rotate_left
    · simp at h
    split at h
    rotate_left
    · simp at h
    split at h
    rotate_left
    · simp at h
    rename_i hcond
    split at h
    · rename_i q hq
      split at h
      · rename_i hc
        simp only [Option.some.injEq] at h; subst h
        have hq2 : q.2 = [] := hc.2.1.resolve_left (by rw [hM.nw]; simp)
        refine ⟨by simp [hq2, drops], ⟨_, by rw [hq2]; simp only [drops]; rfl, by simp [cls]⟩, fun s hs => ?_⟩
        rw [e1 s hs, if_pos hcond, hq]
        simp only []
        rw [if_pos hc]
        simp [hq2, drops]
      · simp at h
    · rename_i hq
      split at h
      · rename_i hc
        simp only [Option.some.injEq] at h; subst h
        refine ⟨rfl, ⟨_, rfl, by simp [cls]⟩, fun s hs => ?_⟩
        rw [e1 s hs, if_pos hcond, hq]
        simp only []
        rw [if_pos hc]
      · simp at h
  | unOp op t x =>
    simp only [aop] at h ⊢
    split at h
    · rename_i u hu
      simp only [Option.map_eq_some_iff] at h
      obtain ⟨z, hz, rfl⟩ := h
      exact ⟨rfl, ⟨[], by simp⟩, fun s hs => by rw [hs x (by simp [Op.operands]), hu]; simp [hz]⟩
    · simp at h
  | alloc t =>
    simp only [aop] at h ⊢
    split at h
    · simp only [Option.some.injEq] at h; subst h
      exact ⟨rfl, ⟨_, rfl, by simp [cls]⟩, fun s hs => rfl⟩
    · simp at h
  | box t x =>
    simp only [aop] at h ⊢
    split at h
    · split at h
      · rename_i hf
        simp only [Option.some.injEq] at h; subst h
        refine ⟨rfl, ⟨_, rfl, by simp [cls]⟩, fun s hs => ?_⟩
        have := hs x (by simp [Op.operands])
        rw [this, if_pos hf]
      · simp at h
    · simp at h
  | indexAddr t x ix =>
    have key : ∀ s, ev s x = ev slots x → ev s ix = ev slots ix → aop C (.indexAddr t x ix) s toks = (aop C (.indexAddr t x ix) slots toks).map fun r => ⟨r.val, s, r.toks⟩ := by
      intro s h1 h2
      simp only [aop, h1, h2]
      (repeat' split) <;> simp_all
    have hsl : r.slots = slots ∧ r.toks = toks := by
      simp only [aop] at h
      (repeat' split at h) <;> first | (simp at h; done) | (simp only [Option.some.injEq] at h; subst h; exact ⟨rfl, rfl⟩)
    exact ⟨hsl.1, ⟨[], by simp [hsl.2]⟩, fun s hs => by rw [key s (hs x (by simp [Op.operands])) (hs ix (by simp [Op.operands])), h]; rfl⟩
  | load t x =>
    have key : ∀ s, ev s x = ev slots x → aop C (.load t x) s toks = (aop C (.load t x) slots toks).map fun r => ⟨r.val, s, r.toks⟩ := by
      intro s h1
      simp only [aop, h1]
      (repeat' split) <;> simp_all
    have hsl : r.slots = slots ∧ r.toks = toks := by
      simp only [aop] at h
      (repeat' split at h) <;> first | (simp at h; done) | (simp only [Option.some.injEq] at h; subst h; exact ⟨rfl, rfl⟩)
    exact ⟨hsl.1, ⟨[], by simp [hsl.2]⟩, fun s hs => by rw [key s (hs x (by simp [Op.operands])), h]; rfl⟩
  | makeFunc f first captured =>
    cases f with
    | func f =>
      simp only [aop] at h ⊢
      split at h
      · rename_i hf
        simp only [Option.some.injEq] at h; subst h
        refine ⟨rfl, ⟨[], by simp⟩, fun s hs => ?_⟩
        rw [if_pos hf]
        have : captured.toList.map (ev s) = captured.toList.map (ev slots) := List.map_congr_left fun x hx => hs x (by simp [Op.operands]; right; simpa using hx)
        rw [this]
      · simp at h
    | _ => simp [aop] at h
  | call c =>
    obtain ⟨callee, args, ts⟩ := c
    cases callee with
    | builtin b =>
      cases b with
      | len =>
        simp only [aop] at h ⊢
        split at h
        · rename_i x t hx ht
          split at h
          · rename_i ti hti
            split at h
            · rename_i el hd
              simp only [Option.map_eq_some_iff] at h
              obtain ⟨n, hn, rfl⟩ := h
              refine ⟨rfl, ⟨[], by simp⟩, fun s hs => ?_⟩
              rw [hs x (by simp [Op.operands, Call.operands]; rw [← Array.mem_toList_iff, hx]; simp)]
              simp [hn]
            · simp at h
          · simp at h
        · simp at h
      | max =>
        have key : ∀ s, (∀ x ∈ args.toList, ev s x = ev slots x) → aop C (.call { callee := .builtin .max, args := args, argTypes := ts }) s toks = (aop C (.call { callee := .builtin .max, args := args, argTypes := ts }) slots toks).map fun r => ⟨r.val, s, r.toks⟩ := by
          intro s h1
          simp only [aop]
          split
          · rename_i x y hx
            rw [hx] at h1
            simp only [h1 x (by simp), h1 y (by simp)]
            (repeat' split) <;> simp_all
          · simp
        have hsl : r.slots = slots ∧ r.toks = toks := by
          simp only [aop] at h
          (repeat' split at h) <;> first | (simp at h; done) | (simp only [Option.some.injEq] at h; subst h; exact ⟨rfl, rfl⟩)
        exact ⟨hsl.1, ⟨[], by simp [hsl.2]⟩, fun s hs => by rw [key s (fun x hx => hs x (by simp [Op.operands, Call.operands]; simpa using hx)), h]; rfl⟩
      | min =>
        have key : ∀ s, (∀ x ∈ args.toList, ev s x = ev slots x) → aop C (.call { callee := .builtin .min, args := args, argTypes := ts }) s toks = (aop C (.call { callee := .builtin .min, args := args, argTypes := ts }) slots toks).map fun r => ⟨r.val, s, r.toks⟩ := by
          intro s h1
          simp only [aop]
          split
          · rename_i x y hx
            rw [hx] at h1
            simp only [h1 x (by simp), h1 y (by simp)]
            (repeat' split) <;> simp_all
          · simp
        have hsl : r.slots = slots ∧ r.toks = toks := by
          simp only [aop] at h
          (repeat' split at h) <;> first | (simp at h; done) | (simp only [Option.some.injEq] at h; subst h; exact ⟨rfl, rfl⟩)
        exact ⟨hsl.1, ⟨[], by simp [hsl.2]⟩, fun s hs => by rw [key s (fun x hx => hs x (by simp [Op.operands, Call.operands]; simpa using hx)), h]; rfl⟩
      | _ => simp [cls] at hc
    | value f =>
      simp only [aop] at h ⊢
      split at h
      · rename_i g caps hf
        obtain ⟨z, hz, rfl⟩ : ∃ z, C.G g (args.toList.map (fun x => res toks (ev slots x)) ++ resL toks caps) = some z ∧ (⟨(intern toks z).1, slots, (intern toks z).2⟩ : Out) = r := by
          split at h
          · rename_i z hz; exact ⟨z, hz, by simpa using h⟩
          · rw [hM.no] at h; simp [mutCall] at h
        refine ⟨rfl, ?_, fun s hs => ?_⟩
        · obtain ⟨m, hm⟩ : ∃ m, (intern toks z).2 = toks ++ m := intern_app z toks
          exact ⟨m, hm, by simp [cls]⟩
        · have e1 : ev s f = ev slots f := hs f (by simp [Op.operands, Call.operands])
          have e2 : args.toList.map (fun x => res toks (ev s x)) = args.toList.map (fun x => res toks (ev slots x)) := List.map_congr_left fun x hx => by rw [hs x (by simp [Op.operands, Call.operands]; right; simpa using hx)]
          rw [e1, hf]
          simp only [e2, hz]
      · simp at h
    | _ => simp [cls] at hc
  | _ => simp [cls] at hc

omit hM in
/-- An operation that only looks sees no new row. -/
theorem aop_app {op : Op} {slots : List AV} {toks m : List Tok} (hc : cls op = 0) (hsc : ∀ x ∈ op.operands.toList, inRange toks.length (ev slots x)) :
    aop C op slots (toks ++ m) = (aop C op slots toks).map fun r => ⟨r.val, r.slots, toks ++ m⟩ := by
  cases op with
  | move x => simp [aop]
  | assign x => simp [aop]
  | pick c x y => simp only [aop]; split <;> simp
  | binOp op t x y t' => simp only [aop]; (repeat' split) <;> simp_all
  | fieldAddr t x f =>
    have hx := hsc x (by simp [Op.operands])
    simp only [aop]
    split
    · split
      · split
        · split
          · split
            · split
              · rename_i k p i j hk
                rw [hk] at hx
                simp only [inRange] at hx
                rw [List.getElem?_append_left hx]
                (repeat' split) <;> simp_all
              · simp
              · simp
            · simp
          · simp
        · simp
      · simp
    · simp
  | slice t x lo hi mx =>
    have hx := hsc x (by simp [Op.operands])
    cases mx with
    | some m => simp [aop]
    | none =>
      simp only [aop]
      split
      · split
        · (repeat' split) <;> simp_all
        · rename_i el k p lo0 n hd hk
          rw [hk] at hx
          simp only [inRange] at hx
          rw [List.getElem?_append_left hx]
          (repeat' split) <;> simp_all
        · (repeat' split) <;> simp_all
        · simp
      · simp
  | extract x i => simp only [aop]; (repeat' split) <;> simp_all
  | build t parts =>
    have e2 : (parts.toList.all fun p => partOk (toks ++ m) (ev slots p.2)) = parts.toList.all fun p => partOk toks (ev slots p.2) := by
      rw [Bool.eq_iff_iff, List.all_eq_true, List.all_eq_true]
      have key : ∀ p ∈ parts.toList, partOk (toks ++ m) (ev slots p.2) = partOk toks (ev slots p.2) := fun p hp => by
        unfold partOk
        rw [lenAV_app (hsc p.2 (by simp only [Op.operands]; exact List.mem_map.2 ⟨p, hp, rfl⟩))]
      exact ⟨fun h p hp => by rw [← key p hp]; exact h p hp, fun h p hp => by rw [key p hp]; exact h p hp⟩
    simp only [aop, e2]
    (repeat' split) <;> simp [Function.comp_def]
  | unOp op t x => simp only [aop]; split <;> simp [Function.comp_def]
  | indexAddr t x ix =>
    have hx := hsc x (by simp [Op.operands])
    simp only [aop]
    split
    · split
      · split <;> simp
      · rename_i el k p lo n hd hk
        rw [hk] at hx
        simp only [inRange] at hx
        rw [List.getElem?_append_left hx]
        (repeat' split) <;> simp_all
      · simp
    · simp
  | load t x =>
    have hx := hsc x (by simp [Op.operands])
    simp only [aop]
    split
    · split
      · (repeat' split) <;> simp_all
      · rename_i k p i j hk
        rw [hk] at hx
        simp only [inRange] at hx
        rw [List.getElem?_append_left hx]
        (repeat' split) <;> simp_all
      · simp
    · simp
  | makeFunc f first captured =>
    cases f with
    | func f => simp only [aop]; split <;> simp
    | _ => simp [aop]
  | call c =>
    obtain ⟨callee, args, ts⟩ := c
    cases callee with
    | builtin b =>
      cases b with
      | len =>
        simp only [aop]
        split
        · rename_i x t hx ht
          split
          · split
            · rw [lenAV_app (hsc x (by simp [Op.operands, Call.operands]; rw [← Array.mem_toList_iff, hx]; simp))]
              cases lenAV toks (ev slots x) <;> simp
            · simp
          · simp
        · simp
      | max => simp only [aop]; (repeat' split) <;> simp_all
      | min => simp only [aop]; (repeat' split) <;> simp_all
      | _ => simp [cls] at hc
    | value f => simp [cls] at hc
    | _ => simp [cls] at hc
  | _ => simp [cls] at hc

theorem getD_putD {slots : List AV} {d i : Nat} {x : AV} (h : i ≠ d) : (putD slots (some d) x).getD i .junk = slots.getD i .junk := by
  simp [putD, List.getD_eq_getElem?_getD, List.getElem?_set_ne (Ne.symm h)]

theorem ev_putD {slots : List AV} {dst : Option Nat} {x : AV} {y : Operand} (h : ∀ d, dst = some d → y ≠ .tmp d) : ev (putD slots dst x) y = ev slots y := by
  cases dst with
  | none => rfl
  | some d =>
    cases y with
    | tmp t => exact getD_putD fun e => h d rfl (by rw [e])
    | _ => rfl

theorem putD_comm {slots : List AV} {d d' : Option Nat} (x x' : AV) (h : ∀ e, d = some e → d' ≠ some e) : putD (putD slots d x) d' x' = putD (putD slots d' x') d x := by
  cases d with
  | none => rfl
  | some e =>
    cases d' with
    | none => rfl
    | some e' => exact List.set_comm _ _ fun h' => h e rfl (by rw [h'])

theorem mem_looks {ops : Array Oper} {o : Oper} {t : Nat} (h : Operand.tmp t ∈ o.op.operands.toList) : t ∈ o.looksAt ops := by
  unfold Oper.looksAt
  exact List.mem_append_left _ (List.mem_filterMap.2 ⟨_, h, rfl⟩)

/-- A step that does not write, from slots that it does not tell apart. -/
theorem rstep_local {ops : Array Oper} {o : Oper} {slots : List AV} {toks : List Tok} {s : ASt} (hc : cls o.op ≠ 2) (h : rstep C ops.toList o ⟨slots, toks⟩ = some s) :
    ∃ v m, s = ⟨putD slots o.dst v, toks ++ m⟩ ∧ (cls o.op = 0 → m = []) ∧
      ∀ slots', (∀ d ∈ o.looksAt ops, slots'.getD d .junk = slots.getD d .junk) → rstep C ops.toList o ⟨slots', toks⟩ = some ⟨putD slots' o.dst v, toks ++ m⟩ := by
  have hgd : ∀ slots', (∀ d ∈ o.looksAt ops, slots'.getD d .junk = slots.getD d .junk) → guardOk ops.toList slots' o = guardOk ops.toList slots o := by
    intro slots' hd
    unfold guardOk
    split
    · rfl
    · rename_i j want hg
      split
      · rename_i o' ho'
        split
        · rename_i d0 hd0
          rw [hd d0 (by
            unfold Oper.looksAt
            refine List.mem_append_right _ ?_
            rw [hg]
            have ho'' : ops[j]? = some o' := by simpa using ho'
            simp [ho'', hd0])]
        · rfl
      · rfl
  have hev : ∀ slots', (∀ d ∈ o.looksAt ops, slots'.getD d .junk = slots.getD d .junk) → ∀ y ∈ o.op.operands.toList, ev slots' y = ev slots y := by
    intro slots' hd y hy
    cases y with
    | tmp t => exact hd t (mem_looks hy)
    | _ => rfl
  unfold rstep at h
  split at h
  · rename_i g hg
    cases g with
    | true =>
      simp only [if_true, Option.map_eq_some_iff] at h
      obtain ⟨r, hr, rfl⟩ := h
      obtain ⟨h1, ⟨m, h2, h3⟩, h4⟩ := aop_local hc hr
      refine ⟨r.val, m, by rw [h1, h2], h3, fun slots' hd => ?_⟩
      unfold rstep
      simp only [hgd slots' hd, hg]
      rw [h4 slots' (hev slots' hd)]
      simp [h2]
    | false =>
      simp only [Bool.false_eq_true, if_false, Option.some.injEq] at h
      subst h
      refine ⟨.tup [], [], by simp, fun _ => rfl, fun slots' hd => ?_⟩
      unfold rstep
      simp only [hgd slots' hd, hg]; simp
  · simp at h

theorem getD_putD_ne {slots : List AV} {dst : Option Nat} {x : AV} {i : Nat} (h : dst ≠ some i) : (putD slots dst x).getD i .junk = slots.getD i .junk := by
  cases dst with
  | none => rfl
  | some d => exact getD_putD fun e => h (by rw [e])

omit hM in
theorem rstep_app {ops : List Oper} {o : Oper} {slots : List AV} {toks m : List Tok} (hc : cls o.op = 0) (hsc : ∀ x ∈ o.op.operands.toList, inRange toks.length (ev slots x)) :
    rstep C ops o ⟨slots, toks ++ m⟩ = (rstep C ops o ⟨slots, toks⟩).map fun s => ⟨s.slots, toks ++ m⟩ := by
  unfold rstep
  simp only []
  split
  · split
    · rw [aop_app hc hsc]
      cases aop C o.op slots toks <;> simp
    · simp
  · simp

def okPair (ops : Array Oper) (x i : Oper) : Bool := cls x.op != 2 && cls i.op != 2 && !(cls x.op == 1 && cls i.op == 1) && x.apart ops i

/-- Two steps that look at nothing of each other's change places. -/
theorem swap {ops : Array Oper} {x i : Oper} {st s1 s2 : ASt} (hok : okPair ops x i = true) (hsc : ∀ y, inRange st.toks.length (ev st.slots y)) (h1 : rstep C ops.toList x st = some s1) (h2 : rstep C ops.toList i s1 = some s2) :
    ∃ s1', rstep C ops.toList i st = some s1' ∧ rstep C ops.toList x s1' = some s2 := by
  obtain ⟨slots, toks⟩ := st
  simp only [okPair, Bool.and_eq_true, bne_iff_ne, ne_eq, Bool.not_eq_true', Bool.and_eq_false_iff, beq_eq_false_iff_ne] at hok
  obtain ⟨⟨⟨hx, hi⟩, hn⟩, hap⟩ := hok
  obtain ⟨q1, q2, q3⟩ := Oper.apart_spec hap
  have hcls : ∀ op, cls op = 0 ∨ cls op = 1 ∨ cls op = 2 := fun op => by
    unfold cls; split <;> first | (simp; done) | (split <;> simp)
  obtain ⟨vx, mx, rfl, hx0, hxl⟩ := rstep_local hx h1
  have hr3 : ∀ d, i.dst = some d → x.dst ≠ some d := fun d hd h => q2 d h hd
  have lx : ∀ (slots : List AV) v, ∀ d ∈ i.looksAt ops, (putD slots x.dst v).getD d .junk = slots.getD d .junk := fun slots v d hd => getD_putD_ne fun e => q1 d e hd
  have li : ∀ (slots : List AV) v, ∀ d ∈ x.looksAt ops, (putD slots i.dst v).getD d .junk = slots.getD d .junk := fun slots v d hd => getD_putD_ne fun e => q3 d e hd
  have evx : ∀ (slots : List AV) v, ∀ y ∈ i.op.operands.toList, ev (putD slots x.dst v) y = ev slots y := fun slots v y hy => by
    cases y with
    | tmp t => exact lx slots v t (mem_looks hy)
    | _ => rfl
  have evi : ∀ (slots : List AV) v, ∀ y ∈ x.op.operands.toList, ev (putD slots i.dst v) y = ev slots y := fun slots v y hy => by
    cases y with
    | tmp t => exact li slots v t (mem_looks hy)
    | _ => rfl
  by_cases hi0 : cls i.op = 0
  · rw [rstep_app hi0 (fun y hy => by rw [evx slots vx y hy]; exact hsc y)] at h2
    simp only [Option.map_eq_some_iff] at h2
    obtain ⟨s, hs, rfl⟩ := h2
    obtain ⟨vi, mi, rfl, hm0, hil⟩ := rstep_local hi hs
    have hm := hm0 hi0; subst hm
    simp only [List.append_nil] at hil
    refine ⟨_, hil slots fun d hd => (lx slots vx d hd).symm, ?_⟩
    rw [hxl _ (li slots vi)]
    simp only [Option.some.injEq, ASt.mk.injEq, and_true]
    exact putD_comm _ _ hr3
  · have hi1 : cls i.op = 1 := by rcases hcls i.op with h | h | h; exact (hi0 h).elim; exact h; exact (hi h).elim
    have hx0' : cls x.op = 0 := by
      rcases hcls x.op with h | h | h
      · exact h
      · exact (hn.elim (fun hn => hn h) fun hn => hn hi1).elim
      · exact (hx h).elim
    have hm := hx0 hx0'; subst hm
    simp only [List.append_nil] at h2 hxl
    obtain ⟨vi, mi, rfl, _, hil⟩ := rstep_local hi h2
    refine ⟨_, hil slots fun d hd => (lx slots vx d hd).symm, ?_⟩
    rw [rstep_app hx0' (fun y hy => by rw [evi slots vi y hy]; exact hsc y), hxl _ (li slots vi)]
    simp only [Option.map_some, Option.some.injEq, ASt.mk.injEq, and_true]
    exact putD_comm _ _ hr3

/-- The steps of a list of operations, each named by its place. -/
def rrunI (C : Ctx) (ops : Array Oper) : List Nat → ASt → Option ASt
  | [], st => some st
  | i :: l, st => match ops[i]? with
    | some o => (match rstep C ops.toList o st with
      | some st' => rrunI C ops l st'
      | none => none)
    | none => none

def edgeB (o : Oper) (x : Nat) : Bool := o.after.any fun e => Region.binds .any e && e.on == x

/-- For each operation a mask of those that must come first. -/
def ancs : List Oper → List Nat → List Nat
  | [], acc => acc
  | o :: rest, acc => ancs rest (acc ++ [o.after.toList.foldl (fun s e => if Region.binds .any e then s ||| 2 ^ e.on ||| acc.getD e.on 0 else s) 0])

def drawOk (ops : Array Oper) : Bool :=
  (List.range ops.size).all fun i => match ops[i]? with
    | some o => (o.after.all fun e => !Region.binds .any e || decide (e.on < i)) && (List.range i).all fun x => ((ancs ops.toList []).getD i 0).testBit x || (match ops[x]? with
      | some ox => okPair ops ox o
      | none => false)
    | none => false

theorem testBit_fold {x : Nat} (acc : List Nat) : ∀ (l : List Edge) (s : Nat), (l.foldl (fun s e => if Region.binds .any e then s ||| 2 ^ e.on ||| acc.getD e.on 0 else s) s).testBit x = true →
    s.testBit x = true ∨ ∃ e ∈ l, Region.binds .any e = true ∧ (x = e.on ∨ (acc.getD e.on 0).testBit x = true)
  | [], s, h => .inl h
  | e :: l, s, h => by
    simp only [List.foldl_cons] at h
    rcases testBit_fold acc l _ h with h | ⟨e', h1, h2⟩
    · split at h
      · rename_i hb
        rw [Nat.testBit_or, Nat.testBit_or, Bool.or_eq_true, Bool.or_eq_true] at h
        rcases h with (h | h) | h
        · exact .inl h
        · refine .inr ⟨e, by simp, hb, .inl ?_⟩
          rw [Nat.testBit_two_pow] at h
          exact (show e.on = x by simpa using h).symm
        · exact .inr ⟨e, by simp, hb, .inr h⟩
      · exact .inl h
    · exact .inr ⟨e', by simp [h1], h2⟩

/-- What must come first is done, if all that comes right before is done and what is done is so. -/
theorem ancs_ok {D : Nat → Prop} {ops : List Oper} (hD : ∀ j oj, ops[j]? = some oj → D j → ∀ e ∈ oj.after, Region.binds .any e = true → D e.on) :
    ∀ (rest : List Oper) (acc : List Nat), (∀ j, rest[j]? = ops[acc.length + j]?) →
      (∀ i oi x, i < acc.length → ops[i]? = some oi → (∀ e ∈ oi.after, Region.binds .any e = true → D e.on) → (acc.getD i 0).testBit x = true → D x) →
      ∀ i oi x, ops[i]? = some oi → (∀ e ∈ oi.after, Region.binds .any e = true → D e.on) → ((ancs rest acc).getD i 0).testBit x = true → D x
  | [], acc, hr, hacc, i, oi, x, hi, hall, hb => by
    simp only [ancs] at hb
    refine hacc i oi x ?_ hi hall hb
    rcases Nat.lt_or_ge i acc.length with h | h
    · exact h
    · rw [List.getD_eq_getElem?_getD, List.getElem?_eq_none h] at hb; simp at hb
  | o :: rest, acc, hr, hacc, i, oi, x, hi, hall, hb => by
    simp only [ancs] at hb
    refine ancs_ok hD rest _ (fun j => ?_) (fun i' oi' x' hi' ho' hall' hb' => ?_) i oi x hi hall hb
    · have := hr (j + 1); simp at this; rw [this]; simp; congr 1; omega
    · by_cases hlt : i' < acc.length
      · rw [List.getD_eq_getElem?_getD, List.getElem?_append_left hlt, ← List.getD_eq_getElem?_getD] at hb'
        exact hacc i' oi' x' hlt ho' hall' hb'
      · have he : i' = acc.length := by simp at hi'; omega
        subst he
        have h0 := hr 0; simp at h0
        rw [ho'] at h0
        obtain rfl := Option.some.inj h0
        rw [List.getD_eq_getElem?_getD, List.getElem?_append_right (Nat.le_refl _)] at hb'
        simp at hb'
        rcases testBit_fold acc o.after.toList 0 (by simpa using hb') with h | ⟨e, h1, h2, h3⟩
        · simp at h
        · have hde := hall' e (by simpa using h1) h2
          rcases h3 with h3 | h3
          · rw [h3]; exact hde
          · have hlt' : e.on < acc.length := by
              rcases Nat.lt_or_ge e.on acc.length with h | h
              · exact h
              · rw [List.getD_eq_getElem?_getD, List.getElem?_eq_none h] at h3; simp at h3
            cases hoe : ops[e.on]? with
            | none =>
              have := hr 0
              have hl1 : acc.length < ops.length := (List.getElem?_eq_some_iff.1 ho').1
              have := List.getElem?_eq_none_iff.1 hoe
              omega
            | some oe => exact hacc e.on oe x' hlt' hoe (hD e.on oe hoe hde) h3

/-- One of the steps is taken first. -/
theorem rrunI_front {ops : Array Oper} {i : Nat} {o : Oper} (hi : ops[i]? = some o) {fin : ASt} : ∀ (r1 r2 : List Nat) (st : ASt), (∀ x ∈ r1, ∃ ox, ops[x]? = some ox ∧ okPair ops ox o = true) →
    (∀ l' st', rrunI C ops l' st = some st' → ∀ y, inRange st'.toks.length (ev st'.slots y)) → rrunI C ops (r1 ++ i :: r2) st = some fin →
    ∃ st', rstep C ops.toList o st = some st' ∧ rrunI C ops (r1 ++ r2) st' = some fin
  | [], r2, st, _, _, h => by
    simp only [List.nil_append, rrunI, hi] at h
    split at h
    · rename_i st' hst; exact ⟨st', hst, h⟩
    · simp at h
  | x :: r1, r2, st, hok, hin, h => by
    obtain ⟨ox, hox, hp⟩ := hok x (by simp)
    simp only [List.cons_append, rrunI, hox] at h
    split at h
    · rename_i s1 hs1
      obtain ⟨s2, h2, h3⟩ := rrunI_front hi r1 r2 s1 (fun y hy => hok y (by simp [hy])) (fun l' st' hl' => hin (x :: l') st' (by simp only [rrunI, hox, hs1]; exact hl')) h
      obtain ⟨s1', g1, g2⟩ := swap hp (fun y => hin [] st (by simp [rrunI]) y) hs1 h2
      exact ⟨s1', g1, by simp only [List.cons_append, rrunI, hox, g2]; exact h3⟩
    · simp at h

variable {P : Program} {a : Act} {w : World} {U : Ld} {w0 : World} {st : ASt} {E : Env}

theorem wpOp_some {ops : Array Oper} {i : Nat} {K : Act → World → Prop} (h : wpOp P ops (fun _ _ _ => False) i K a w) : ∃ a' w', K a' w' := by
  unfold wpOp at h
  split at h
  · exact ⟨a, w, h⟩
  · rename_i o ho
    split at h
    · rcases h with h | ⟨_, _, _, h⟩
      · unfold Oper.wp at h
        unfold Oper.upon at h
        split at h
        · exact ⟨_, _, h⟩
        · exact ⟨_, _, h⟩
        · exact ⟨_, _, h⟩
        · obtain ⟨e, w', fr, hR, _⟩ := h []
          split at hR
          · exact ⟨_, _, hR⟩
          · exact hR.elim
          · obtain ⟨_, _, hR⟩ := hR; exact hR.elim
        · obtain ⟨v, w', hR, _⟩ := h { (default : Frame) with fn := 0 } []
          exact ⟨_, _, hR⟩
        · exact h.elim
        · exact h.elim
      · exact h.elim
    · exact ⟨_, _, h⟩

omit hM in
theorem rrunI_some (hC : C.Ok P) {ops : Array Oper} (hds : ∀ (j : Nat) (oj : Oper), ops[j]? = some oj → ∀ e, oj.dst = some e → e ∉ U.idx) : ∀ (l : List Nat) (st : ASt) (E : Env) (a : Act) (w : World), SR U w0 st E a w → ∀ st', rrunI C ops l st = some st' → ∃ E' a' w', SR U w0 st' E' a' w'
  | [], st, E, a, w, hs, st', h => by simp only [rrunI, Option.some.injEq] at h; subst h; exact ⟨E, a, w, hs⟩
  | i :: l, st, E, a, w, hs, st', h => by
    simp only [rrunI] at h
    split at h
    · rename_i o ho
      split at h
      · rename_i s1 hs1
        obtain ⟨a1, w1, E1, h1⟩ := wpOp_some (rstep_ok hC (Q := fun _ _ _ => False) (K := fun a' w' => ∃ E', SR U w0 s1 E' a' w') ho (hds i o ho) hs hs1 fun E' a' w' hs' => ⟨E', hs'⟩)
        exact rrunI_some hC hds l s1 E1 a1 w1 h1 st' h
      · simp at h
    · simp at h

theorem SR.inRange (hs : SR U w0 st E a w) (y : Operand) : Ax.inRange st.toks.length (Ax.ev st.slots y) := SRep.inRange _ _ (hs.ev y)

/-- Whatever order the edges allow. -/
theorem wpAny_ok (hC : C.Ok P) {ops : Array Oper} (hds : ∀ (j : Nat) (oj : Oper), ops[j]? = some oj → ∀ e, oj.dst = some e → e ∉ U.idx) (hok : drawOk ops = true) {fin : ASt} {Q : Exit → Act → World → Prop} (hQ : ∀ E' a' w', SR U w0 fin E' a' w' → Q .normal a' w') :
    ∀ (fuel : Nat) (listed : Array Bool) (st : ASt) (E : Env) (a : Act) (w : World), listed.size = ops.size →
      (∀ j oj, ops[j]? = some oj → listed.getD j false = true → ∀ e ∈ oj.after, Region.binds .any e = true → listed.getD e.on false = true) →
      ((List.range ops.size).filter fun i => !listed.getD i true).length ≤ fuel → SR U w0 st E a w → rrunI C ops ((List.range ops.size).filter fun i => !listed.getD i true) st = some fin →
      wpAny P .any ops Q fuel listed a w := by
  have hok' : ∀ i o, ops[i]? = some o → (∀ e ∈ o.after, Region.binds .any e = true → e.on < i) ∧ ∀ x, x < i → ((ancs ops.toList []).getD i 0).testBit x = true ∨ ∃ ox, ops[x]? = some ox ∧ okPair ops ox o = true := by
    intro i o hi
    have hlt : i < ops.size := (Array.getElem?_eq_some_iff.1 hi).1
    simp only [drawOk, List.all_eq_true, List.mem_range] at hok
    have := hok i hlt
    rw [hi] at this
    simp only [Bool.and_eq_true, List.all_eq_true, List.mem_range, Array.all_eq_true_iff_forall_mem, Bool.or_eq_true, Bool.not_eq_true', decide_eq_true_eq] at this
    refine ⟨fun e he hb => (this.1 e he).resolve_left (by simp [hb]), fun x hx => (this.2 x hx).imp id fun h => ?_⟩
    split at h
    · rename_i ox hox; exact ⟨ox, hox, h⟩
    · simp at h
  -- the first that is not listed is ready
  have hfirst : ∀ (listed : Array Bool), listed.size = ops.size → Region.ready .any ops listed = [] → ((List.range ops.size).filter fun i => !listed.getD i true) = [] := by
    intro listed hsz hr
    have key : ∀ n i, i < n → i < ops.size → listed.getD i true = true := by
      intro n
      induction n with
      | zero => intro i h; omega
      | succ n ih =>
        intro i hi hlt
        rcases Classical.em (listed.getD i true = true) with h | h
        · exact h
        · exfalso
          have hi' : i ∈ Region.ready .any ops listed := by
            rw [mem_ready]
            refine ⟨by simpa using h, ops[i], Array.getElem?_eq_getElem hlt, fun e he hb => ?_⟩
            have hon := (hok' i ops[i] (Array.getElem?_eq_getElem hlt)).1 e he hb
            have := ih e.on (by omega) (by omega)
            rw [Array.getD_eq_getD_getElem?] at this ⊢
            rw [Array.getElem?_eq_getElem (by omega)] at this ⊢
            simpa using this
          rw [hr] at hi'; simp at hi'
    rw [List.filter_eq_nil_iff]
    intro i hi
    rw [List.mem_range] at hi
    simp [key (i + 1) i (by omega) hi]
  intro fuel
  induction fuel with
  | zero =>
    intro listed st E a w hsz hcl hlen hs h
    have hnil : ((List.range ops.size).filter fun i => !listed.getD i true) = [] := List.length_eq_zero_iff.1 (by omega)
    rw [hnil] at h
    simp only [rrunI, Option.some.injEq] at h
    subst h
    refine ⟨?_, hQ E a w hs⟩
    have : ∀ i, i ∉ Region.ready .any ops listed := by
      intro i hi
      rw [mem_ready] at hi
      obtain ⟨h0, o, ho, _⟩ := hi
      have hlt : i < ops.size := (Array.getElem?_eq_some_iff.1 ho).1
      have : i ∈ ((List.range ops.size).filter fun i => !listed.getD i true) := List.mem_filter.2 ⟨List.mem_range.2 hlt, by rw [h0]; rfl⟩
      rw [hnil] at this; simp at this
    exact List.eq_nil_iff_forall_not_mem.2 this
  | succ fuel ih =>
    intro listed st E a w hsz hcl hlen hs h
    refine ⟨fun hr => ?_, fun i hi => ?_⟩
    · rw [hfirst listed hsz hr] at h
      simp only [rrunI, Option.some.injEq] at h
      subst h
      exact hQ E a w hs
    · rw [mem_ready] at hi
      obtain ⟨h0, o, ho, hpred⟩ := hi
      have hlt : i < ops.size := (Array.getElem?_eq_some_iff.1 ho).1
      have hmem : i ∈ (List.range ops.size).filter fun i => !listed.getD i true := List.mem_filter.2 ⟨List.mem_range.2 hlt, by rw [h0]; rfl⟩
      obtain ⟨r1, r2, hrs⟩ := List.append_of_mem hmem
      have hsorted : ((List.range ops.size).filter fun i => !listed.getD i true).Pairwise (· < ·) := List.Pairwise.filter _ List.pairwise_lt_range
      have hnd : ((List.range ops.size).filter fun i => !listed.getD i true).Nodup := List.Pairwise.imp (fun h => Nat.ne_of_lt h) hsorted
      rw [hrs] at hsorted hnd
      have hlt1 : ∀ x ∈ r1, x < i := fun x hx => (List.pairwise_append.1 hsorted).2.2 x hx i (by simp)
      have hun : ∀ x ∈ r1, listed.getD x true = false := fun x hx => by
        have : x ∈ (List.range ops.size).filter fun i => !listed.getD i true := by rw [hrs]; simp [hx]
        rw [List.mem_filter] at this
        simpa using this.2
      rw [hrs] at h
      obtain ⟨st', g1, g2⟩ := rrunI_front ho r1 r2 st (fun x hx => by
        rcases (hok' i o ho).2 x (hlt1 x hx) with hb | hb
        · exfalso
          have hD := ancs_ok (D := fun j => listed.getD j false = true) (ops := ops.toList) (fun j oj hj hd e he hb => hcl j oj (by simpa using hj) hd e he hb) ops.toList [] (fun j => by simp) (fun _ _ _ h => by simp at h) i o x (by simpa using ho) hpred hb
          have hx1 := hun x hx
          have hxl : x < listed.size := by rw [hsz]; have := hlt1 x hx; omega
          rw [Array.getD_eq_getD_getElem?, Array.getElem?_eq_getElem hxl] at hD hx1
          simp at hD hx1
          rw [hD] at hx1; simp at hx1
        · exact hb) (fun l' s' hl' y => by
          obtain ⟨E', a', w', hs'⟩ := rrunI_some hC hds l' st E a w hs s' hl'
          exact hs'.inRange y) h
      refine rstep_ok hC ho (hds i o ho) hs g1 fun E' a' w' hs' => ?_
      have hset : ((List.range ops.size).filter fun j => !(listed.setIfInBounds i true).getD j true) = r1 ++ r2 := by
        have : ((List.range ops.size).filter fun j => !(listed.setIfInBounds i true).getD j true) = ((List.range ops.size).filter fun j => !listed.getD j true).filter fun j => j != i := by
          rw [List.filter_filter]
          apply List.filter_congr
          intro j hj
          rw [List.mem_range] at hj
          by_cases hji : j = i
          · subst hji
            have : (listed.setIfInBounds j true).getD j true = true := by simp [Array.getD_eq_getD_getElem?, hsz, hj]
            rw [this]; simp
          · have := getD_set_ne (listed := listed) (i := i) (j := j) true (fun h => hji h.symm)
            rw [this]; simp [hji]
        rw [this, hrs, List.filter_append, List.filter_cons]
        have hni : ∀ x ∈ r1 ++ r2, x ≠ i := by
          intro x hx e
          subst e
          rw [List.nodup_append] at hnd
          rcases List.mem_append.1 hx with hx | hx
          · exact hnd.2.2 x hx x (by simp) rfl
          · have := hnd.2.1; rw [List.nodup_cons] at this; exact this.1 hx
        simp only [bne_self_eq_false, Bool.false_eq_true, if_false]
        rw [← List.filter_append, List.filter_eq_self]
        intro x hx; simpa using hni x hx
      refine ih (listed.setIfInBounds i true) st' E' a' w' (by simpa using hsz) (fun j oj hj hd e he hb => ?_) ?_ hs' (by rw [hset]; exact g2)
      · by_cases hji : j = i
        · subst hji
          rw [ho] at hj; obtain rfl := Option.some.inj hj
          exact getD_set_true (hpred e he hb)
        · rw [getD_set_ne false (fun h => hji h.symm)] at hd
          exact getD_set_true (hcl j oj hj hd e he hb)
      · rw [hset]; rw [hrs] at hlen; simp at hlen ⊢; omega

end
end Go.Proofs.Ytehfjhenilkofaa.Ax
