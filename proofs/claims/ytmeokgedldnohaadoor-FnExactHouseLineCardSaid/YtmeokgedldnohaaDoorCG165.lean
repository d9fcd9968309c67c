/-
  Contracts: ExchangeBy (both programs). No condition.
-/
import Derived.Test.YtmeokgedldnohaaDoorCG164
namespace Go.Proofs.YtmeokgedldnohaaDoor.Ax
open Go Go.RowKit
set_option linter.unusedSimpArgs false
set_option linter.unusedVariables false

/-- Each of the first k of a cycle gets the house of the next one. -/
def exC (c : List Int) : Nat → List Int → List Int
  | 0, o => o
  | k + 1, o => (exC c k o).set (c.getD k 0).toNat (c.getD ((k + 1) % c.length) 0)
def exT (n : Nat) (cs : List (List Int)) : Nat → List Int
  | 0 => List.replicate n 0
  | k + 1 => exC (cs.getD k []) (cs.getD k []).length (exT n cs k)
theorem exC_len {c : List Int} {o : List Int} : ∀ {k : Nat}, (exC c k o).length = o.length
  | 0 => rfl
  | k + 1 => by rw [exC, List.length_set, exC_len]
theorem exT_len {n : Nat} {cs : List (List Int)} : ∀ {k : Nat}, (exT n cs k).length = n
  | 0 => by simp [exT]
  | k + 1 => by rw [exT, exC_len, exT_len]
theorem exC_in {c : List Int} {n : Nat} (hc : ∀ x ∈ c, 0 ≤ x ∧ x < (n : Int)) {o : List Int} (ho : ∀ x ∈ o, 0 ≤ x ∧ x ≤ (n : Int)) : ∀ {k : Nat}, k ≤ c.length → ∀ x ∈ exC c k o, 0 ≤ x ∧ x ≤ (n : Int)
  | 0, _, x, hx => ho x hx
  | k + 1, hk, x, hx => by
    rw [exC] at hx
    rcases List.mem_or_eq_of_mem_set hx with h | h
    · exact exC_in hc ho (by omega) x h
    · subst h
      have hm : (k + 1) % c.length < c.length := Nat.mod_lt _ (by omega)
      rw [List.getD_eq_getElem?_getD, List.getElem?_eq_getElem hm, Option.getD_some]
      have := hc _ (List.getElem_mem hm)
      omega
theorem exT_in {n : Nat} {cs : List (List Int)} (hc : ∀ c ∈ cs, ∀ x ∈ c, 0 ≤ x ∧ x < (n : Int)) : ∀ {k : Nat}, k ≤ cs.length → ∀ x ∈ exT n cs k, 0 ≤ x ∧ x ≤ (n : Int)
  | 0, _, x, hx => by simp only [exT, List.mem_replicate] at hx; omega
  | k + 1, hk, x, hx => by
    rw [exT] at hx
    have e : cs.getD k [] = cs[k] := by simp [List.getD_eq_getElem?_getD, show k < cs.length by omega]
    rw [e] at hx
    exact exC_in (hc _ (List.getElem_mem _)) (exT_in hc (by omega)) (Nat.le_refl _) x hx
/-- The exchange by the cycles. -/
def exL (xss : List (Bool × List Int)) : List Int := exT xss.length (tcA xss) (tcA xss).length
noncomputable def mExB : List AV → Option AV := mk (fun p => housesB p.2 = true) (fun (p : (Bool) × (List (Bool × List Int))) => [intss p.1 p.2]) (fun p => .sl false 1 ((exL p.2).map int))
theorem mExB_at (nl : Bool) (xss : List (Bool × List Int)) (hpre : housesB xss = true) : mExB [.sl nl 1 (xss.map row)] = some (.sl false 1 ((exL xss).map int)) :=
  mk_eq (enc := fun (p : (Bool) × (List (Bool × List Int))) => [intss p.1 p.2]) (x := (nl, xss)) (by rintro ⟨a0, a1⟩ ⟨b0, b1⟩ h; simp [ints, intss, int, bool, row, frac, fracs, map_int_inj, map_row_inj, frac_inj, map_frac_inj] at h; simp [h]) hpre

theorem tcA_ok {xss : List (Bool × List Int)} (h : H5 xss) : (tcA xss).length ≤ 5 ∧ (∀ c ∈ tcA xss, c.length ≤ 5 ∧ ∀ x ∈ c, ∃ i : Nat, x = (i : Int) ∧ i < xss.length) := by
  have hs := tcT_ok h (r := xss.length)
  have h1 := hs.one
  have h2 := hs.cnt
  have h5 := h.n5
  refine ⟨by unfold tcA; omega, fun c hc => ⟨?_, fun x hx => ?_⟩⟩
  · have : c.length ≤ (tcA xss).flatten.length := by
      obtain ⟨k, hk, rfl⟩ := List.getElem_of_mem hc
      have e : (tcA xss).flatten = ((tcA xss).take (k + 1)).flatten ++ ((tcA xss).drop (k + 1)).flatten := by rw [← List.flatten_append, List.take_append_drop]
      rw [e, flat_take hk, List.length_append, List.length_append]; omega
    unfold tcA at this; omega
  · have := hs.rng c hc x hx
    exact ⟨x.toNat, by omega, by omega⟩

set_option maxRecDepth 16000 in
set_option maxHeartbeats 4000000 in
theorem implExch_ok : FnOk Tryd.prog 41 mExB := by
  refine mk_ok fun ⟨nl, xss⟩ hh => ?_
  simp only at hh
  have h := h5_of hh
  have hn1 := h.n1
  have hn5 := h.n5
  have htc := mTc_at nl xss hh
  obtain ⟨hcl, hca⟩ := tcA_ok h
  have hb : 8 * xss.length ≤ 281474976710656 ∧ xss.length ≤ 4611686018427387904 ∧ xss.length ≤ 281474976710656 := by omega
  have hz0 : List.replicate xss.length (AV.v (.int .i64 0)) = (exT xss.length (tcA xss) 0).map int := by simp [exT, int]
  have hexl : exL xss = exT xss.length (tcA xss) (tcA xss).length := rfl
  rw [hexl]
  generalize tcA xss = cs at *
  have hrl : (tcR cs).length = cs.length := by simp [tcR]
  have hG : FnsOk Tryd.prog [(39, mHouses)] := (.cons implHouses_ok .nil)
  have hM : FnsMut Tryd.prog [] := .nil
  have hV : FnsMov Tryd.prog [] := .nil
  have hK : FnsFrz Tryd.prog [(43, true, mTc)] := (.cons implTop_ok .nil)
  refine callOk_awp (ctxH_ok eqOk hG hM hV hK) mixed (live := [true, false, true, true, false, true, true, true, false, false, true, false, false, false, false, true, true, true, true, false, false, true, true, true, true]) (dt := []) Tryd.func41 rfl (by kernel_rfl) (by kernel_rfl) fun w0 hlens => ?_
  clear hlens
  simp (config := {contextual := true}) [Tryd.f41, List.range, List.range.loop, ints, intss, int, bool, row, frac, fracs, ← List.map_take, ← List.map_drop, List.all, mHouses_at, hh, hb, htc, hz0, hrl]
  refine awp_range (live := [true, false, true, true, false, true, true, true, false, false, true, false, false, false, false, true, true, true, true, false, false, true, true, true, true]) (ctxH_ok eqOk hG hM hV hK) mixed [false, false, false, true, false, false, false, false, false, false, false, false, false, false, false, true, true, true] (cs.length) (fun k => True) (fun k => ⟨[.junk, .junk, .junk, .ref 0 [] 0 xss.length, .junk, .junk, .junk, .junk, .junk, .junk, .junk, .junk, .junk, .junk, .junk, .sl false 1 ((tcR cs).map row), int cs.length, int k, .junk, .junk, .junk, .junk, .junk, .junk, .junk, .junk, .junk, .junk, .junk, .junk, .junk, .junk, .junk, .junk, .junk, .junk, .junk, .junk, .junk, .junk, .junk, .junk], [⟨true, .sl false 1 ((exT xss.length cs k).map int)⟩]⟩) ?_ (by simp [sub, slotsLe, clean, keep, refsL, refs, once, place, renL, ren, List.replicate, int, bool, hz0, intss]) ?_ ?_ ?_
  · omega
  · trivial
  · intro k hk _ hwk
    have hkl : k < (tcR cs).length := by omega
    have hgk : (tcR cs)[k] = (false, cs[k]) := by simp [tcR]
    obtain ⟨hc5, hci⟩ := hca cs[k] (List.getElem_mem hk)
    have hnx : exT xss.length cs (k + 1) = exC cs[k] cs[k].length (exT xss.length cs k) := by
      rw [exT, show cs.getD k [] = cs[k] by simp [List.getD_eq_getElem?_getD, hk]]
    rw [hnx]
    have hol := exT_len (n := xss.length) (cs := cs) (k := k)
    generalize exT xss.length cs k = o at *
    generalize hc : cs[k] = c at *
    simp (config := {contextual := true}) [List.range, List.range.loop, ints, intss, int, bool, row, frac, fracs, ← List.map_take, ← List.map_drop, List.all, hk, hkl, hgk]
    refine awp_range (live := [true, false, true, true, false, true, true, true, false, false, true, false, false, false, false, true, true, true, true, false, false, true, true, true, true]) (ctxH_ok eqOk hG hM hV hK) mixed [false, false, false, true, false, true, false, false, false, false, false, false, false, false, false, true, true, true, false, false, false, true, true, true] (c.length) (fun m => True) (fun m => ⟨[.junk, .junk, .junk, .ref 0 [] 0 xss.length, .junk, .sl false 1 (c.map int), .junk, .junk, .junk, .junk, .junk, .junk, .junk, .junk, .junk, .sl false 1 ((tcR cs).map row), int cs.length, int (k : Int), .junk, .junk, .junk, .sl false 1 (c.map int), int c.length, int m, .junk, .junk, .junk, .junk, .junk, .junk, .junk, .junk, .junk, .junk, .junk, .junk, .junk, .junk, .junk, .junk, .junk, .junk], [⟨true, .sl false 1 ((exC c m o).map int)⟩]⟩) ?_ (by simp [sub, slotsLe, clean, keep, refsL, refs, once, place, renL, ren, List.replicate, int, bool, ints, exC]) ?_ ?_ ?_
    · omega
    · trivial
    · intro m hm _ hwm
      obtain ⟨i, hcm, hin⟩ := hci c[m] (List.getElem_mem hm)
      have hmod : (m + 1) % c.length < c.length := Nat.mod_lt _ (by omega)
      have hel := exC_len (c := c) (o := o) (k := m)
      rw [hol] at hel
      obtain ⟨z, hz⟩ : ∃ z : Nat, z = (m + 1) % c.length := ⟨_, rfl⟩
      have hzl : z < c.length := by omega
      have hrem : ((m : Int) + 1) % (c.length : Int) = (z : Int) := by rw [show (m : Int) + 1 = ((m + 1 : Nat) : Int) by omega, hz]; rfl
      have hrem2 : Int.tmod ((m : Int) + 1) (c.length : Int) = (z : Int) := by rw [show (m : Int) + 1 = ((m + 1 : Nat) : Int) by omega, hz]; rfl
      have hset : ((exC c m o).map int).set i (.v (.int .i64 c[z])) = (exC c (m + 1) o).map int := by
        have e1 : c.getD m 0 = (i : Int) := by rw [List.getD_eq_getElem?_getD, List.getElem?_eq_getElem hm]; exact hcm
        have e2 : c.getD ((m + 1) % c.length) 0 = c[z] := by rw [← hz, List.getD_eq_getElem?_getD, List.getElem?_eq_getElem hzl]; rfl
        rw [exC, e1, e2, Int.toNat_natCast, List.map_set]; rfl
      clear hz hmod
      have hcz : ¬ c.length = 0 := by omega
      generalize exC c m o = p at *
      generalize exC c (m + 1) o = p' at *
      simp (config := {contextual := true}) [List.range, List.range.loop, ints, intss, int, bool, row, frac, fracs, ← List.map_take, ← List.map_drop, List.all, hm, hcm, hin, hzl, hel, hrem, hrem2, hset, hcz, hwm, -List.map_set]
      done
    · intro _
      simp (config := {contextual := true}) [List.range, List.range.loop, ints, intss, int, bool, row, frac, fracs, ← List.map_take, ← List.map_drop, List.all, hwk]
      done
  · intro _
    have hol := exT_len (n := xss.length) (cs := cs) (k := cs.length)
    have hto : List.take xss.length (exT xss.length cs cs.length) = exT xss.length cs cs.length := List.take_of_length_le (by omega)
    simp (config := {contextual := true}) [List.range, List.range.loop, ints, intss, int, bool, row, frac, fracs, ← List.map_take, ← List.map_drop, List.all, hol, hto]
    done

set_option maxRecDepth 16000 in
set_option maxHeartbeats 4000000 in
theorem specExch_ok : FnOk Tryd.prog 36 mExB := by
  refine mk_ok fun ⟨nl, xss⟩ hh => ?_
  simp only at hh
  have h := h5_of hh
  have hn1 := h.n1
  have hn5 := h.n5
  have htc := mTc_at nl xss hh
  obtain ⟨hcl, hca⟩ := tcA_ok h
  have hb : 8 * xss.length ≤ 281474976710656 ∧ xss.length ≤ 4611686018427387904 ∧ xss.length ≤ 281474976710656 := by omega
  have hz0 : List.replicate xss.length (AV.v (.int .i64 0)) = (exT xss.length (tcA xss) 0).map int := by simp [exT, int]
  have hexl : exL xss = exT xss.length (tcA xss) (tcA xss).length := rfl
  rw [hexl]
  generalize tcA xss = cs at *
  have hrl : (tcR cs).length = cs.length := by simp [tcR]
  have hG : FnsOk Tryd.prog [(34, mHouses)] := (.cons specHouses_ok .nil)
  have hM : FnsMut Tryd.prog [] := .nil
  have hV : FnsMov Tryd.prog [] := .nil
  have hK : FnsFrz Tryd.prog [(38, true, mTc)] := (.cons specTop_ok .nil)
  refine callOk_awp (ctxH_ok eqOk hG hM hV hK) mixed (live := [true, false, true, true, false, true, true, true, false, false, true, false, false, false, false, true, true, true, true, false, false, true, true, true, true]) (dt := []) Tryd.func36 rfl (by kernel_rfl) (by kernel_rfl) fun w0 hlens => ?_
  clear hlens
  simp (config := {contextual := true}) [Tryd.f36, List.range, List.range.loop, ints, intss, int, bool, row, frac, fracs, ← List.map_take, ← List.map_drop, List.all, mHouses_at, hh, hb, htc, hz0, hrl]
  refine awp_range (live := [true, false, true, true, false, true, true, true, false, false, true, false, false, false, false, true, true, true, true, false, false, true, true, true, true]) (ctxH_ok eqOk hG hM hV hK) mixed [false, false, false, true, false, false, false, false, false, false, false, false, false, false, false, true, true, true] (cs.length) (fun k => True) (fun k => ⟨[.junk, .junk, .junk, .ref 0 [] 0 xss.length, .junk, .junk, .junk, .junk, .junk, .junk, .junk, .junk, .junk, .junk, .junk, .sl false 1 ((tcR cs).map row), int cs.length, int k, .junk, .junk, .junk, .junk, .junk, .junk, .junk, .junk, .junk, .junk, .junk, .junk, .junk, .junk, .junk, .junk, .junk, .junk, .junk, .junk, .junk, .junk, .junk, .junk], [⟨true, .sl false 1 ((exT xss.length cs k).map int)⟩]⟩) ?_ (by simp [sub, slotsLe, clean, keep, refsL, refs, once, place, renL, ren, List.replicate, int, bool, hz0, intss]) ?_ ?_ ?_
  · omega
  · trivial
  · intro k hk _ hwk
    have hkl : k < (tcR cs).length := by omega
    have hgk : (tcR cs)[k] = (false, cs[k]) := by simp [tcR]
    obtain ⟨hc5, hci⟩ := hca cs[k] (List.getElem_mem hk)
    have hnx : exT xss.length cs (k + 1) = exC cs[k] cs[k].length (exT xss.length cs k) := by
      rw [exT, show cs.getD k [] = cs[k] by simp [List.getD_eq_getElem?_getD, hk]]
    rw [hnx]
    have hol := exT_len (n := xss.length) (cs := cs) (k := k)
    generalize exT xss.length cs k = o at *
    generalize hc : cs[k] = c at *
    simp (config := {contextual := true}) [List.range, List.range.loop, ints, intss, int, bool, row, frac, fracs, ← List.map_take, ← List.map_drop, List.all, hk, hkl, hgk]
    refine awp_range (live := [true, false, true, true, false, true, true, true, false, false, true, false, false, false, false, true, true, true, true, false, false, true, true, true, true]) (ctxH_ok eqOk hG hM hV hK) mixed [false, false, false, true, false, true, false, false, false, false, false, false, false, false, false, true, true, true, false, false, false, true, true, true] (c.length) (fun m => True) (fun m => ⟨[.junk, .junk, .junk, .ref 0 [] 0 xss.length, .junk, .sl false 1 (c.map int), .junk, .junk, .junk, .junk, .junk, .junk, .junk, .junk, .junk, .sl false 1 ((tcR cs).map row), int cs.length, int (k : Int), .junk, .junk, .junk, .sl false 1 (c.map int), int c.length, int m, .junk, .junk, .junk, .junk, .junk, .junk, .junk, .junk, .junk, .junk, .junk, .junk, .junk, .junk, .junk, .junk, .junk, .junk], [⟨true, .sl false 1 ((exC c m o).map int)⟩]⟩) ?_ (by simp [sub, slotsLe, clean, keep, refsL, refs, once, place, renL, ren, List.replicate, int, bool, ints, exC]) ?_ ?_ ?_
    · omega
    · trivial
    · intro m hm _ hwm
      obtain ⟨i, hcm, hin⟩ := hci c[m] (List.getElem_mem hm)
      have hmod : (m + 1) % c.length < c.length := Nat.mod_lt _ (by omega)
      have hel := exC_len (c := c) (o := o) (k := m)
      rw [hol] at hel
      obtain ⟨z, hz⟩ : ∃ z : Nat, z = (m + 1) % c.length := ⟨_, rfl⟩
      have hzl : z < c.length := by omega
      have hrem : ((m : Int) + 1) % (c.length : Int) = (z : Int) := by rw [show (m : Int) + 1 = ((m + 1 : Nat) : Int) by omega, hz]; rfl
      have hrem2 : Int.tmod ((m : Int) + 1) (c.length : Int) = (z : Int) := by rw [show (m : Int) + 1 = ((m + 1 : Nat) : Int) by omega, hz]; rfl
      have hset : ((exC c m o).map int).set i (.v (.int .i64 c[z])) = (exC c (m + 1) o).map int := by
        have e1 : c.getD m 0 = (i : Int) := by rw [List.getD_eq_getElem?_getD, List.getElem?_eq_getElem hm]; exact hcm
        have e2 : c.getD ((m + 1) % c.length) 0 = c[z] := by rw [← hz, List.getD_eq_getElem?_getD, List.getElem?_eq_getElem hzl]; rfl
        rw [exC, e1, e2, Int.toNat_natCast, List.map_set]; rfl
      clear hz hmod
      have hcz : ¬ c.length = 0 := by omega
      generalize exC c m o = p at *
      generalize exC c (m + 1) o = p' at *
      simp (config := {contextual := true}) [List.range, List.range.loop, ints, intss, int, bool, row, frac, fracs, ← List.map_take, ← List.map_drop, List.all, hm, hcm, hin, hzl, hel, hrem, hrem2, hset, hcz, hwm, -List.map_set]
      done
    · intro _
      simp (config := {contextual := true}) [List.range, List.range.loop, ints, intss, int, bool, row, frac, fracs, ← List.map_take, ← List.map_drop, List.all, hwk]
      done
  · intro _
    have hol := exT_len (n := xss.length) (cs := cs) (k := cs.length)
    have hto : List.take xss.length (exT xss.length cs cs.length) = exT xss.length cs cs.length := List.take_of_length_le (by omega)
    simp (config := {contextual := true}) [List.range, List.range.loop, ints, intss, int, bool, row, frac, fracs, ← List.map_take, ← List.map_drop, List.all, hol, hto]
    done

end Go.Proofs.YtmeokgedldnohaaDoor.Ax
