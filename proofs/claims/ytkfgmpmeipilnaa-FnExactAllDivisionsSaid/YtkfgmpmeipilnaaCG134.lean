/-
  All divisions are divisions; contracts: CountCalm of both. No condition.
-/
import Derived.Test.YtkfgmpmeipilnaaCG133
namespace Go.Proofs.Ytkfgmpmeipilnaa.Ax
open Go Go.RowKit
set_option linter.unusedSimpArgs false

theorem gd_app {l m : List Int} {i : Nat} (h : i < l.length) : (l ++ m).getD i 0 = l.getD i 0 := by
  rw [List.getD_eq_getElem?_getD, List.getD_eq_getElem?_getD, List.getElem?_append_left h]

structure DvG (n : Nat) (l : List Int) : Prop where
  bd : ∀ y ∈ l, 0 ≤ y ∧ y < (n : Int)
  dv : ∀ i, i < l.length → divAt l i = true

theorem dvg_snoc {n : Nat} {l : List Int} (h : DvG n l) {i : Nat} (hi : i < n) (ho : okD l i = true) : DvG n (l ++ [(i : Int)]) := by
  refine ⟨fun y hy => ?_, fun j hj => ?_⟩
  · rcases List.mem_append.1 hy with hy | hy
    · exact h.bd y hy
    · rw [List.mem_singleton] at hy; omega
  · rw [List.length_append, List.length_cons, List.length_nil] at hj
    rcases Nat.lt_or_ge j l.length with hj' | hj'
    · have := h.dv j hj'
      unfold divAt at this ⊢
      rw [List.take_append_of_le_length (by omega), gd_app hj', gd_app (show j - 1 < l.length by omega)]
      exact this
    · have e : j = l.length := by omega
      subst e
      have e1 : (l ++ [(i : Int)]).getD l.length 0 = (i : Int) := by simp [List.getD_eq_getElem?_getD]
      simp only [okD, Bool.or_eq_true, decide_eq_true_eq] at ho
      unfold divAt
      rw [e1, List.take_left]
      rcases ho with ho | ho
      · simp; right; omega
      · rcases Nat.eq_zero_or_pos l.length with hz | hz
        · rw [List.length_eq_zero_iff.1 hz]; simp [pos, posFrom]
        · rw [gd_app (show l.length - 1 < l.length by omega)]
          have : l.getD (l.length - 1) 0 = (i : Int) := ho
          rw [this]
          simp; left; intro e; rw [e] at hz; simp at hz
theorem dvg_all {n : Nat} : ∀ {r : Nat} {l : List Int}, DvG n l → ∀ x ∈ dvL n r l, DvG n x.2
  | 0, l, h, x, hx => by simp only [dvL, List.mem_singleton] at hx; subst hx; exact h
  | r + 1, l, h, x, hx => by
    simp only [dvL, List.mem_flatMap, List.mem_range] at hx
    obtain ⟨i, hi, hx⟩ := hx
    split at hx
    · rename_i ho
      exact dvg_all (dvg_snoc h hi ho) x hx
    · simp at hx
theorem divs_div {xss : List (Bool × List Int)} (h : rectB xss 3 10 100 = true) {x : Bool × List Int} (hx : x ∈ divs xss) : x.1 = false ∧ divB xss x.2 = true := by
  unfold divs at hx
  rw [if_pos h] at hx
  have h1 := dvL_flag x hx
  have h2 := dvg_all (n := xss.length) (l := []) ⟨by simp, by simp⟩ x hx
  refine ⟨h1.1, ?_⟩
  simp only [divB, h, Bool.true_and, Bool.and_eq_true, decide_eq_true_eq]
  refine ⟨⟨by have := h1.2; simp at this; omega, ?_⟩, ?_⟩
  · unfold allIn
    rw [List.all_eq_true]
    intro y hy
    have := h2.bd y hy
    simp [inR]; omega
  · exact allR_yes fun i hi => h2.dv i hi

theorem rowSum_leD {xss : List (Bool × List Int)} {c : Nat} (h : ∀ i (hi : i < xss.length), xss[i].2.length ≤ c) : ∀ {k : Nat}, k ≤ xss.length → rowSum xss k ≤ c * k
  | 0, _ => by simp [rowSum_zero]
  | k + 1, hk => by
    have := rowSum_leD h (k := k) (by omega)
    have h1 := h k (by omega)
    rw [rowSum_succ (by omega), Nat.mul_succ]; omega
theorem divs_need {xss : List (Bool × List Int)} : need (divs xss) ≤ 1048576 := by
  have h1 := divs_len (xss := xss)
  have h2 := rowSum_leD (xss := divs xss) (c := 10) (fun i hi => by
    have hm := List.getElem_mem hi
    cases h : rectB xss 3 10 100 with
    | false => have he : divs xss = [] := by simp [divs, h]
               rw [he] at hi; simp at hi
    | true =>
      have h3 := (div_rect (divs_div h hm).2).2
      have h4 := rect_len h
      omega) (Nat.le_refl _)
  simp only [need]; omega
def divsP (xss : List (Bool × List Int)) : Bool × List (Bool × List Int) := (!rectB xss 3 10 100, divs xss)
theorem mAllD_atP (nl : Bool) (xss : List (Bool × List Int)) : mAllD [.sl nl 1 (xss.map row)] = some (.sl (divsP xss).1 1 ((divsP xss).2.map row)) := mAllD_at nl xss
theorem divsP_need {xss : List (Bool × List Int)} : need (divsP xss).2 ≤ 1048576 := divs_need

/-- The first k of them that are calm. -/
def calmTo (xss : List (Bool × List Int)) (k : Nat) : Nat := ((divs xss).take k).countP fun x => envB xss x.2
theorem calmTo_zero {xss : List (Bool × List Int)} : calmTo xss 0 = 0 := by simp [calmTo]
theorem calmTo_succ {xss : List (Bool × List Int)} {k : Nat} (h : k < (divs xss).length) : calmTo xss (k + 1) = calmTo xss k + (if envB xss (divs xss)[k].2 = true then 1 else 0) := by
  unfold calmTo; rw [List.take_succ_eq_append_getElem h, List.countP_append]; simp [List.countP_cons]
theorem calmTo_le {xss : List (Bool × List Int)} {k : Nat} : calmTo xss k ≤ 59049 := by
  have h1 := divs_len (xss := xss)
  have h2 := List.countP_le_length (p := fun x : Bool × List Int => envB xss x.2) (l := (divs xss).take k)
  rw [List.length_take] at h2
  unfold calmTo; omega
noncomputable def mCalm : List AV → Option AV := mk (fun _ => True) (fun (p : (Bool) × (List (Bool × List Int))) => [intss p.1 p.2]) (fun p => int (if rectB p.2 3 10 100 = true then (calmTo p.2 (divs p.2).length : Int) else -1))
theorem mCalm_at (nl : Bool) (xss : List (Bool × List Int)) : mCalm [.sl nl 1 (xss.map row)] = some (.v (.int .i64 (if rectB xss 3 10 100 = true then (calmTo xss (divs xss).length : Int) else -1))) :=
  mk_eq (enc := fun (p : (Bool) × (List (Bool × List Int))) => [intss p.1 p.2]) (x := (nl, xss)) (by rintro ⟨a0, a1⟩ ⟨b0, b1⟩ h; simp [ints, intss, int, bool, row, frac, fracs, map_int_inj, map_row_inj, frac_inj, map_frac_inj] at h; simp [h]) trivial

set_option maxHeartbeats 1000000 in
theorem implCountCalm_ok : FnOk Try.prog 41 mCalm := by
  refine mk_ok fun ⟨nl, xss⟩ _ => ?_
  have hG : FnsOk Try.prog [(94, (mGrid 3 10 100)), (38, mAllD), (97, mEnvB)] := (.cons implCakeOk_ok (.cons implAllDivisions_ok (.cons hasOuterEnvy_ok .nil)))
  refine callOk_awp (ctx_ok eqOk hG) mixed (live := [true, false, true, true, false, true, false, false, true, false, true, true, true, true, false, false, false, false, false, true]) (dt := []) Try.func41 rfl (by kernel_rfl) (by kernel_rfl) fun w0 hlens => ?_
  clear hlens
  have hc := mAllD_at nl xss
  cases h : rectB xss 3 10 100 with
  | false => simp (config := {contextual := true, maxSteps := 1000000}) [Try.f41, List.range, List.range.loop, ints, intss, int, bool, row, frac, fracs, ← List.map_take, ← List.map_drop, mGrid_at, h]
  | true =>
  have h0 := calmTo_zero (xss := xss)
  have hn := divs_len (xss := xss)
  have he : ∀ k, ∀ hk : k < (divs xss).length, mEnvB [.sl nl 1 (xss.map row), .sl false 1 (((divs xss)[k]).2.map int)] = some (.v (.bool (!envB xss ((divs xss)[k]).2))) := fun k hk => mEnvB_at nl xss false ((divs xss)[k]).2 (divs_div h (List.getElem_mem hk)).2
  have hf : ∀ k, ∀ hk : k < (divs xss).length, ((divs xss)[k]).1 = false := fun k hk => (divs_div h (List.getElem_mem hk)).1
  have hsucc : ∀ k, ∀ hk : k < (divs xss).length, _ := fun k hk => calmTo_succ (xss := xss) (k := k) hk
  have hle := fun k => calmTo_le (xss := xss) (k := k)
  rw [h] at hc
  generalize calmTo xss = C at *
  generalize divs xss = D at *
  simp (config := {contextual := true, maxSteps := 1000000}) [Try.f41, List.range, List.range.loop, ints, intss, int, bool, row, frac, fracs, ← List.map_take, ← List.map_drop, mGrid_at, h, hc]
  refine awp_range (live := [true, false, true, true, false, true, false, false, true, false, true, true, true, true, false, false, false, false, false, true]) (ctx_ok eqOk hG) mixed [true, false, false, true, false, false, false, false, false, false, true, true, true] (D.length) (fun k => True) (fun k => ⟨[intss nl xss, .junk, .junk, int (C k), .junk, .junk, .junk, .junk, .junk, .junk, .ref 0 [] 0 D.length, int D.length, int k, .junk, .junk, .junk, .junk, .junk, .junk, .junk, .junk, .junk, .junk, .junk], [⟨true, .sl false 1 (D.map row)⟩]⟩) ?_ (by simp [sub, slotsLe, clean, keep, refsL, refs, once, place, renL, ren, List.replicate, int, bool, h0, intss]) ?_ ?_ ?_
  · omega
  · trivial
  · intro k hk _ hwk
    have h1 := he k hk
    have h2 := hf k hk
    have h3 := hsucc k hk
    have h4 := hle k
    have hwc : IntKind.i64.wrap ((C k : Int) + 1) = (C k : Int) + 1 := wrapI (by omega) (by omega)
    cases hb : envB xss (D[k]).2 with
    | false =>
      rw [hb] at h1 h3
      simp at h3
      simp (config := {contextual := true, maxSteps := 1000000}) [List.range, List.range.loop, ints, intss, int, bool, row, frac, fracs, ← List.map_take, ← List.map_drop, hk, hwk, row, h2, h1, h3]
      done
    | true =>
      rw [hb] at h1 h3
      simp at h3
      simp (config := {contextual := true, maxSteps := 1000000}) [List.range, List.range.loop, ints, intss, int, bool, row, frac, fracs, ← List.map_take, ← List.map_drop, hk, hwk, row, h2, h1, h3, hwc]
      done
  · intro _
    simp (config := {contextual := true, maxSteps := 1000000}) [List.range, List.range.loop, ints, intss, int, bool, row, frac, fracs, ← List.map_take, ← List.map_drop]
    done

set_option maxHeartbeats 1000000 in
theorem specCountCalm_ok : FnOk Try.prog 40 mCalm := by
  refine mk_ok fun ⟨nl, xss⟩ _ => ?_
  have hG : FnsOk Try.prog [(92, (mGrid 3 10 100)), (37, mAllD), (96, mEnvB)] := (.cons specCakeOk_ok (.cons specAllDivisions_ok (.cons l26Envy_ok .nil)))
  refine callOk_awp (ctx_ok eqOk hG) mixed (live := [true, false, true, true, false, true, false, false, true, false, true, true, true, true, false, false, false, false, false, true]) (dt := []) Try.func40 rfl (by kernel_rfl) (by kernel_rfl) fun w0 hlens => ?_
  clear hlens
  have hc := mAllD_at nl xss
  cases h : rectB xss 3 10 100 with
  | false => simp (config := {contextual := true, maxSteps := 1000000}) [Try.f40, List.range, List.range.loop, ints, intss, int, bool, row, frac, fracs, ← List.map_take, ← List.map_drop, mGrid_at, h]
  | true =>
  have h0 := calmTo_zero (xss := xss)
  have hn := divs_len (xss := xss)
  have he : ∀ k, ∀ hk : k < (divs xss).length, mEnvB [.sl nl 1 (xss.map row), .sl false 1 (((divs xss)[k]).2.map int)] = some (.v (.bool (!envB xss ((divs xss)[k]).2))) := fun k hk => mEnvB_at nl xss false ((divs xss)[k]).2 (divs_div h (List.getElem_mem hk)).2
  have hf : ∀ k, ∀ hk : k < (divs xss).length, ((divs xss)[k]).1 = false := fun k hk => (divs_div h (List.getElem_mem hk)).1
  have hsucc : ∀ k, ∀ hk : k < (divs xss).length, _ := fun k hk => calmTo_succ (xss := xss) (k := k) hk
  have hle := fun k => calmTo_le (xss := xss) (k := k)
  rw [h] at hc
  generalize calmTo xss = C at *
  generalize divs xss = D at *
  simp (config := {contextual := true, maxSteps := 1000000}) [Try.f40, List.range, List.range.loop, ints, intss, int, bool, row, frac, fracs, ← List.map_take, ← List.map_drop, mGrid_at, h, hc]
  refine awp_range (live := [true, false, true, true, false, true, false, false, true, false, true, true, true, true, false, false, false, false, false, true]) (ctx_ok eqOk hG) mixed [true, false, false, true, false, false, false, false, false, false, true, true, true] (D.length) (fun k => True) (fun k => ⟨[intss nl xss, .junk, .junk, int (C k), .junk, .junk, .junk, .junk, .junk, .junk, .ref 0 [] 0 D.length, int D.length, int k, .junk, .junk, .junk, .junk, .junk, .junk, .junk, .junk, .junk, .junk, .junk], [⟨true, .sl false 1 (D.map row)⟩]⟩) ?_ (by simp [sub, slotsLe, clean, keep, refsL, refs, once, place, renL, ren, List.replicate, int, bool, h0, intss]) ?_ ?_ ?_
  · omega
  · trivial
  · intro k hk _ hwk
    have h1 := he k hk
    have h2 := hf k hk
    have h3 := hsucc k hk
    have h4 := hle k
    have hwc : IntKind.i64.wrap ((C k : Int) + 1) = (C k : Int) + 1 := wrapI (by omega) (by omega)
    cases hb : envB xss (D[k]).2 with
    | false =>
      rw [hb] at h1 h3
      simp at h3
      simp (config := {contextual := true, maxSteps := 1000000}) [List.range, List.range.loop, ints, intss, int, bool, row, frac, fracs, ← List.map_take, ← List.map_drop, hk, hwk, row, h2, h1, h3]
      done
    | true =>
      rw [hb] at h1 h3
      simp at h3
      simp (config := {contextual := true, maxSteps := 1000000}) [List.range, List.range.loop, ints, intss, int, bool, row, frac, fracs, ← List.map_take, ← List.map_drop, hk, hwk, row, h2, h1, h3, hwc]
      done
  · intro _
    simp (config := {contextual := true, maxSteps := 1000000}) [List.range, List.range.loop, ints, intss, int, bool, row, frac, fracs, ← List.map_take, ← List.map_drop]
    done

end Go.Proofs.Ytkfgmpmeipilnaa.Ax
