/-
  strings.SplitSeq, by one byte: the iterator. No condition.
-/
import Derived.Test.YtblnpjppckfmfaaDoorCG218
import Derived.Test.YtblnpjppckfmfaaDoorCK4
namespace Go.Proofs.YtblnpjppckfmfaaDoor.Ax
open Go Go.RowKit
set_option linter.unusedSimpArgs false

def spT (c : UInt8) (r : ByteArray) : List Tok := [⟨true, .sl false 1 [str ⟨#[c]⟩]⟩, ⟨true, .sl false 1 [str r]⟩, ⟨true, .sl false 1 [int 0]⟩]

def spT0 (c : UInt8) (r : ByteArray) : List Tok := [⟨true, .sl false 1 [str r]⟩, ⟨true, .sl false 1 [str ⟨#[c]⟩]⟩, ⟨true, .sl false 1 [int 0]⟩]

set_option maxHeartbeats 2000000 in
set_option maxRecDepth 100000 in
theorem splitSeq1_at {s : ByteArray} {c : UInt8} (hsz : s.size ≤ 4611686018427387904) {w : World} {cv : Array Value} {Bi : Nat → Prop} (hlen : cv.size = 3) (hBi : ∀ b, Bi b → b < w.heap.size)
    (hcaps : ∀ (W1 : World) (F : Nat → Prop), Frm (fun _ => False) w W1 → ∃ E : Env, E.F = F ∧ (∀ t b, E.S t b → Bi b) ∧ SRepL W1 E (spT0 c s) [.ptr 1 [] 0 0, .ptr 0 [] 0 0, .ptr 2 [] 0 0] cv.toList ∧ (∀ t tk, (spT0 c s)[t]? = some tk → TokOk W1 E t tk) ∧ (∀ t t' b, t ≠ t' → E.S t b → ¬ E.S t' b)) :
    IterAt Tryd.prog 55 cv w Bi ((splitS s c).map str) := by
  have hG : FnsOk Tryd.prog [(57, mIdx)] := (.cons index_ok .nil)
  refine iterAt_of_ty (dt := []) (caps := [.ptr 1 [] 0 0, .ptr 0 [] 0 0, .ptr 2 [] 0 0]) Tryd.func55 rfl (by kernel_rfl) rfl (by kernel_rfl) hlen hBi hcaps fun w F0 B0 l J hJ hyield => ?_
  have c1 : (⟨#[c]⟩ : ByteArray).size = 1 := rfl
  refine ty_seq (ty_awp (ctx_ok eqOk hG) mixed hJ (live := [true, true, true, true, false, false, true, true, true, false, false, true, false, false, true, false, false, false, false, false, false, false, false, false, false, true, false, false, false, false, false, false, false, true, false, false, false, false, false, false, false, false, true]) fun X A w1 => ?_)
  simp [Tryd.f55, List.range, List.range.loop, ints, intss, int, bool, row, frac, fracs, ← List.map_take, ← List.map_drop, thenY_normal, yv, spT0, str, c1]
  refine ty_seq (ty_block (ty_loop (α := {p : Nat × ByteArray // (splitS s c).drop p.1 = splitS p.2 c ∧ p.2.size ≤ s.size}) (fun p => ⟨[.v (.func (.yield l) #[] #[]), .ptr 0 [] 0 0, .ptr 1 [] 0 0, .ptr 2 [] 0 0, .junk, .junk, .junk, .junk, .junk, .junk, .junk, .junk, .junk, .junk, .junk, .junk, .junk, .junk, .junk, .junk, .junk, .junk, .junk, .junk, .junk, .junk, .junk, .junk, .junk, .junk, .junk, .junk, .junk, .junk, .junk, .junk, .junk, .junk, .junk, .junk, .junk, .junk, .junk, .junk, .junk, .junk, .junk, .junk, .junk, .junk, .junk, .junk], spT c p.1.2⟩) (fun p => (true, p.1.1)) (fun p => p.1.2.size) ⟨(0, s), rfl, Nat.le_refl _⟩ ?_ ?_))
  · refine ⟨?_, rfl⟩
    simp [sub, slotsLe, clean, keep, refsL, refs, once, place, renL, ren, List.replicate, int, bool, spT, spT0, str]
  rintro ⟨⟨k, r⟩, hk, hrs⟩
  simp only at hk hrs
  have hi := mIdx_at r c
  refine ty_block ?_
  rcases split_idx (s := r) (c := c) with ⟨e1, e2⟩ | ⟨j, e1, e2, e3⟩
  · rw [e1] at hi
    refine ty_awp (ctx_ok eqOk hG) mixed hJ (live := [true, true, true, true, false, false, true, true, true, false, false, true, false, false, true, false, false, false, false, false, false, false, false, false, false, true, false, false, false, false, false, false, false, true, false, false, false, false, false, false, false, false, true]) fun X A w1 => ?_
    simp [List.range, List.range.loop, ints, intss, int, bool, row, frac, fracs, ← List.map_take, ← List.map_drop, spT, str, hi, thenY_normal, thenY_exit, inBY_exit, inBY_normal]
    rw [e2] at hk
    have hkl : k < (splitS s c).length := by
      have := congrArg List.length hk
      simp at this; omega
    have hkn : k + 1 = (splitS s c).length := by
      have := congrArg List.length hk
      simp at this; omega
    have hkg : (splitS s c)[k]? = some r := by
      have := congrArg (fun l => l[0]?) hk
      simpa using this
    refine ty_yield (ctx_ok eqOk hG) hJ hyield (pre := [_, _]) (slots := [.v (.func (.yield l) #[] #[]), .ptr 0 [] 0 0, .ptr 1 [] 0 0, .ptr 2 [] 0 0, .junk, .junk, .junk, .v (.int .i64 (-1)), .junk, .junk, .junk, .junk, .junk, .junk, .junk, .junk, .junk, .junk, .junk, .junk, .junk, .junk, .junk, .junk, .junk, .junk, .junk, .junk, .junk, .junk, .junk, .junk, .junk, .v (.bool true), .junk, .junk, .junk, .junk, .junk, .junk, .junk, .junk, .junk, .junk, .junk, .junk, .junk, .junk, .junk, .v (.func (.yield l) #[] #[]), .v (.string r), .junk]) (toks := spT c r) rfl rfl rfl rfl (by simp [List.range, List.range.loop, ints, intss, int, bool, row, frac, fracs, ← List.map_take, ← List.map_drop, spT, str]) (by rfl) (x := str r) ?_ ?_ ?_ ?_
    · simp [str, ev, res]
    · rw [List.getElem?_map, hkg]; rfl
    · exact ⟨.inl rfl, .inl (by rw [hkn])⟩
    · exact ⟨.inl rfl, .inr rfl⟩
  · rw [e1] at hi
    rw [e3] at hk
    have hkg : (splitS s c)[k]? = some (r.extract 0 j) := by
      have := congrArg (fun l => l[0]?) hk
      simpa using this
    have hkd : (splitS s c).drop (k + 1) = splitS (r.extract (j + 1) r.size) c := by
      have := congrArg (List.drop 1) hk
      rw [List.drop_drop] at this
      simpa using this
    have hj0 : ¬ ((j : Int) < 0) := by omega
    have hrsz : (r.extract (j + 1) r.size).size = r.size - (j + 1) := by rw [ByteArray.size_extract]; omega
    have v1 : IntKind.i64.wrap (j : Int) = j := wrapI (by omega) (by omega)
    have v2 : IntKind.i64.wrap ((j : Int) + 1) = (j : Int) + 1 := wrapI (by omega) (by omega)
    have hjr : j ≤ r.size := by omega
    have hjr1 : j + 1 ≤ r.size := by omega
    refine ty_seq (ty_awp (ctx_ok eqOk hG) mixed hJ (live := [true, true, true, true, false, false, true, true, true, false, false, true, false, false, true, false, false, false, false, false, false, false, false, false, false, true, false, false, false, false, false, false, false, true, false, false, false, false, false, false, false, false, true]) fun X A w1 => ?_)
    simp [List.range, List.range.loop, ints, intss, int, bool, row, frac, fracs, ← List.map_take, ← List.map_drop, spT, str, hi, thenY_normal, hj0]
    refine ty_seq (ty_awp (ctx_ok eqOk hG) mixed hJ (live := [true, true, true, true, false, false, true, true, true, false, false, true, false, false, true, false, false, false, false, false, false, false, false, false, false, true, false, false, false, false, false, false, false, true, false, false, false, false, false, false, false, false, true]) fun X A w1 => ?_)
    simp [List.range, List.range.loop, ints, intss, int, bool, row, frac, fracs, ← List.map_take, ← List.map_drop, spT, str, hi, thenY_normal, hj0, c1, v1, v2, hjr, hjr1]
    refine ty_seq (ty_awp (ctx_ok eqOk hG) mixed hJ (live := [true, true, true, true, false, false, true, true, true, false, false, true, false, false, true, false, false, false, false, false, false, false, false, false, false, true, false, false, false, false, false, false, false, true, false, false, false, false, false, false, false, false, true]) fun X A w1 => ?_)
    simp [List.range, List.range.loop, ints, intss, int, bool, row, frac, fracs, ← List.map_take, ← List.map_drop, spT, str, hi, thenY_normal, hj0, c1, v1, v2, hjr, hjr1]
    refine ty_seq (ty_seq (ty_yieldP (ctx_ok eqOk hG) hJ hyield (pre := [_, _]) (post := [_]) (slots := [.v (.func (.yield l) #[] #[]), .ptr 0 [] 0 0, .ptr 1 [] 0 0, .ptr 2 [] 0 0, .junk, .junk, .junk, .v (.int .i64 j), .v (.string (r.extract 0 j)), .junk, .junk, .junk, .junk, .junk, .junk, .junk, .junk, .junk, .junk, .junk, .junk, .junk, .junk, .junk, .junk, .junk, .junk, .junk, .junk, .junk, .junk, .junk, .junk, .v (.bool false), .junk, .junk, .junk, .junk, .junk, .v (.func (.yield l) #[] #[]), .v (.string (r.extract 0 j)), .junk, .junk, .junk, .junk, .junk, .junk, .junk, .junk, .junk, .junk, .junk]) (toks := spT c r) rfl rfl rfl rfl (by simp [List.range, List.range.loop, ints, intss, int, bool, row, frac, fracs, ← List.map_take, ← List.map_drop, spT, str]) (by rfl) (x := str (r.extract 0 j)) ?_ ?_
      (sT := ⟨[.v (.func (.yield l) #[] #[]), .ptr 0 [] 0 0, .ptr 1 [] 0 0, .ptr 2 [] 0 0, .junk, .junk, .junk, .v (.int .i64 j), .v (.string (r.extract 0 j)), .junk, .junk, .junk, .junk, .junk, .junk, .junk, .junk, .junk, .junk, .junk, .junk, .junk, .junk, .junk, .junk, .junk, .junk, .junk, .junk, .junk, .junk, .junk, .junk, .v (.bool false), .junk, .junk, .junk, .junk, .junk, .v (.func (.yield l) #[] #[]), .v (.string (r.extract 0 j)), .v (.bool true), .v (.bool false), .junk, .junk, .junk, .junk, .junk, .junk, .junk, .junk, .junk], spT c r⟩) (sF := ⟨[.v (.func (.yield l) #[] #[]), .ptr 0 [] 0 0, .ptr 1 [] 0 0, .ptr 2 [] 0 0, .junk, .junk, .junk, .v (.int .i64 j), .v (.string (r.extract 0 j)), .junk, .junk, .junk, .junk, .junk, .junk, .junk, .junk, .junk, .junk, .junk, .junk, .junk, .junk, .junk, .junk, .junk, .junk, .junk, .junk, .junk, .junk, .junk, .junk, .v (.bool false), .junk, .junk, .junk, .junk, .junk, .v (.func (.yield l) #[] #[]), .v (.string (r.extract 0 j)), .v (.bool false), .v (.bool true), .junk, .junk, .junk, .junk, .junk, .junk, .junk, .junk, .junk], spT c r⟩) (by simp [List.range, List.range.loop, ints, intss, int, bool, row, frac, fracs, ← List.map_take, ← List.map_drop, spT, str]) (by simp [List.range, List.range.loop, ints, intss, int, bool, row, frac, fracs, ← List.map_take, ← List.map_drop, spT, str]) ?_ ?_))
    · simp [str, ev, res]
    · rw [List.getElem?_map, hkg]; rfl
    · simp only [thenY_normal]
      refine ty_awp (ctx_ok eqOk hG) mixed hJ (live := [true, true, true, true, false, false, true, true, true, false, false, true, false, false, true, false, false, false, false, false, false, false, false, false, false, true, false, false, false, false, false, false, false, true, false, false, false, false, false, false, false, false, true]) fun X A w1 => ?_
      simp [List.range, List.range.loop, ints, intss, int, bool, row, frac, fracs, ← List.map_take, ← List.map_drop, thenY_normal]
      refine ty_awp (ctx_ok eqOk hG) mixed hJ (live := [true, true, true, true, false, false, true, true, true, false, false, true, false, false, true, false, false, false, false, false, false, false, false, false, false, true, false, false, false, false, false, false, false, true, false, false, false, false, false, false, false, false, true]) fun X A w1 => ?_
      simp [List.range, List.range.loop, ints, intss, int, bool, row, frac, fracs, ← List.map_take, ← List.map_drop, spT, str, thenY_normal, inBY_normal, c1, v1, v2, hjr, hjr1]
      refine ⟨⟨(k + 1, r.extract (j + 1) r.size), hkd, by rw [hrsz]; omega⟩, ?_, rfl, ?_⟩
      · simp [sub, slotsLe, clean, keep, refsL, refs, once, place, renL, ren, List.replicate, int, bool]
      · show (r.extract (j + 1) r.size).size < r.size
        rw [hrsz]; omega
    · simp only [thenY_normal]
      refine ty_awp (ctx_ok eqOk hG) mixed hJ (live := [true, true, true, true, false, false, true, true, true, false, false, true, false, false, true, false, false, false, false, false, false, false, false, false, false, true, false, false, false, false, false, false, false, true, false, false, false, false, false, false, false, false, true]) fun X A w1 => ?_
      simp [List.range, List.range.loop, ints, intss, int, bool, row, frac, fracs, ← List.map_take, ← List.map_drop, thenY_normal, thenY_ret, inBY_ret]

theorem splitSeq_ok {s : ByteArray} {c : UInt8} (hsz : s.size ≤ 4611686018427387904) : SeqOk Tryd.prog 36 [str s, str ⟨#[c]⟩, int 0] ((splitS s c).map str) := by
  have hG : FnsOk Tryd.prog [] := .nil
  refine seqOk_of_awp (gf := 55) (caps := [.ptr 1 [] 0 0, .ptr 0 [] 0 0, .ptr 2 [] 0 0]) (T0 := spT0 c s) (dt := []) (live := [true, true, true, true, true, true, true]) (ctx_ok eqOk hG) mixed Tryd.func36 rfl (by kernel_rfl) (by kernel_rfl) rfl (by simp) (fun t tk ht => .inr (by match t, ht with | 0, ht => simp [spT0] at ht; subst ht; rfl | 1, ht => simp [spT0] at ht; subst ht; rfl | 2, ht => simp [spT0] at ht; subst ht; rfl | _ + 3, ht => simp [spT0] at ht)) (fun _ _ _ hlen hBi hcaps => splitSeq1_at hsz hlen hBi hcaps) fun A w0 => ?_
  simp [Tryd.f36, List.range, List.range.loop, ints, intss, int, bool, row, frac, fracs, ← List.map_take, ← List.map_drop, str, spT0]


end Go.Proofs.YtblnpjppckfmfaaDoor.Ax
