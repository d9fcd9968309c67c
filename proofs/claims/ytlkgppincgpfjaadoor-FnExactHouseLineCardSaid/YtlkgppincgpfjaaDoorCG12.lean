/-
  Contract: TopCycles of the reference (its result is only read). No condition.
-/
import Derived.Test.YtlkgppincgpfjaaDoorCG11
import Derived.Test.YtlkgppincgpfjaaDoorCK4
import Derived.Test.YtlkgppincgpfjaaDoorCG7
import Derived.Test.YtlkgppincgpfjaaDoorCG2
namespace Go.Proofs.YtlkgppincgpfjaaDoor.Ax
open Go Go.RowKit
set_option linter.unusedSimpArgs false
set_option linter.unusedVariables false

def trB (k : Nat) : List Bool := List.replicate k true
theorem trB_succ {k : Nat} : (trB k).map bool ++ [.v (.bool true)] = (trB (k + 1)).map bool := by simp [trB, List.replicate_succ', bool]
theorem trB_len {k : Nat} : (trB k).length = k := by simp [trB]

/-- The first k people of whom it is asked who is left. -/
def lvT (bs : List Bool) (k : Nat) : List Nat := (List.range k).filter fun i => bs.getD i false
theorem lvT_succ {bs : List Bool} {k : Nat} : lvT bs (k + 1) = lvT bs k ++ if bs.getD k false = true then [k] else [] := by
  unfold lvT
  rw [List.range_succ, List.filter_append]
  congr 1
  cases h : bs.getD k false
  · rw [List.getD_eq_getElem?_getD] at h; simp [h]
  · rw [List.getD_eq_getElem?_getD] at h; simp [h]
theorem lvT_all {bs : List Bool} : lvT bs bs.length = lvN bs := rfl
theorem lvT_in {bs : List Bool} {k : Nat} (hk : k ≤ bs.length) : ∀ i ∈ lvT bs k, i ∈ lvN bs := fun i hi => by
  simp only [lvT, lvN, List.mem_filter, List.mem_range] at hi ⊢
  exact ⟨by omega, hi.2⟩
theorem cycs_one {xss : List (Bool × List Int)} {bs : List Bool} {l : List Nat} {i : Nat} : cycs xss bs (l ++ [i]) = cycs xss bs l ++ (match cyc1 xss bs i with | none => [] | some r => [r]) := by
  unfold cycs
  rw [List.filterMap_append]
  congr 1
  cases hc : cyc1 xss bs i <;> simp [hc]
theorem knock_app {bs : List Bool} {l m : List Int} : knock bs (l ++ m) = knock (knock bs l) m := by unfold knock; rw [List.foldl_append]
theorem flat_take {L : List (List Int)} {k : Nat} (h : k < L.length) : (L.take (k + 1)).flatten = (L.take k).flatten ++ L[k] := by
  rw [List.take_succ_eq_append_getElem h, List.flatten_append]; simp

set_option maxRecDepth 16000 in
set_option maxHeartbeats 8000000 in
theorem specTop_ok : FnFrz Tryd.prog 42 true mTc := by
  refine mk_frz fun ⟨nl, xss⟩ hh => ?_
  simp only at hh
  have h := h5_of hh
  have hn1 := h.n1
  have hn5 := h.n5
  have hz2 : (trB 0).map bool = [] := rfl
  have hG : FnsOk Tryd.prog [(40, mHouses)] := (.cons specHouses_ok .nil)
  have hM : FnsMut Tryd.prog [] := .nil
  have hV : FnsMov Tryd.prog [] := .nil
  have hK : FnsFrz Tryd.prog [(75, false, mL22C)] := (.cons (FnOk.frz l22Cycle_ok) .nil)
  refine frzOk_awp (ctxH_ok eqOk hG hM hV hK) mixed (live := [true, false, true, true, true, true, true, true, true, true, false, true, false, true, false, false, true, false, false, true, true, true, false, false, false, false, false, false, false, false, true, false, true, true, true, true, false, false, false, false, true, false, false, false, false, false, false, true, false, false, false, false, false, true, true, true, true, false, false, true, true, true, true]) (dt := []) Tryd.func42 rfl (by kernel_rfl) (by kernel_rfl) fun A w0 hlens => ?_
  clear hlens
  simp (config := {contextual := true}) [Tryd.f42, List.range, List.range.loop, ints, intss, int, bool, row, frac, fracs, ← List.map_take, ← List.map_drop, List.all, mHouses_at, hh]
  refine awp_range (live := [true, false, true, true, true, true, true, true, true, true, false, true, false, true, false, false, true, false, false, true, true, true, false, false, false, false, false, false, false, false, true, false, true, true, true, true, false, false, false, false, true, false, false, false, false, false, false, true, false, false, false, false, false, true, true, true, true, false, false, true, true, true, true]) (ctxH_ok eqOk hG hM hV hK) mixed [true, false, false, true, false, false, false, false, false, false, false, false, false, false, false, false, false, false, false, true, true] (xss.length) (fun k => True) (fun k => ⟨[intss nl xss, .junk, .junk, .ref 0 [] 0 k, .junk, .junk, .junk, .junk, .junk, .junk, .junk, .junk, .junk, .junk, .junk, .junk, .junk, .junk, .junk, int xss.length, int k, .junk, .junk, .junk, .junk, .junk, .junk, .junk, .junk, .junk, .junk, .junk, .junk, .junk, .junk, .junk, .junk, .junk, .junk, .junk, .junk, .junk, .junk, .junk, .junk, .junk, .junk, .junk, .junk, .junk, .junk, .junk, .junk, .junk, .junk, .junk, .junk, .junk, .junk, .junk, .junk, .junk, .junk, .junk, .junk, .junk, .junk, .junk, .junk, .junk, .junk, .junk, .junk, .junk, .junk, .junk, .junk], [⟨true, .sl false 1 ((trB k).map bool)⟩]⟩) ?_ (by simp [sub, slotsLe, clean, keep, refsL, refs, once, place, renL, ren, List.replicate, int, bool, hz2, intss]) ?_ ?_ ?_
  · omega
  · trivial
  · intro k hk _ hwk
    have h1 := trB_succ (k := k)
    have h2 := trB_len (k := k)
    have q1 : k + 1 ≤ 4611686018427387904 ∧ (k + 1) ≤ 140737488355328 ∧ (k + 1) * 1 ≤ 140737488355328 := by omega
    simp (config := {contextual := true}) [List.range, List.range.loop, ints, intss, int, bool, row, frac, fracs, ← List.map_take, ← List.map_drop, List.all, hk, hwk, h1, h2, q1]
    done
  intro _
  have h2 := trB_len (k := xss.length)
  have hz1 : trB xss.length = (tcT xss 0).1 := rfl
  have hz3 : (tcT xss 0).2 = [] := rfl
  simp [List.range, List.range.loop, ints, intss, int, bool, row, frac, fracs, ← List.map_take, ← List.map_drop, List.all]
  refine awp_loop_of (live := [true, false, true, true, true, true, true, true, true, true, false, true, false, true, false, false, true, false, false, true, true, true, false, false, false, false, false, false, false, false, true, false, true, true, true, true, false, false, false, false, true, false, false, false, false, false, false, true, false, false, false, false, false, true, true, true, true, false, false, true, true, true, true]) (ctxH_ok eqOk hG hM hV hK) mixed [true, false, false, true, true, true] (α := {r : Nat // r ≤ xss.length}) (fun r => ⟨[intss nl xss, .junk, .junk, .ref 0 [] 0 xss.length, .ref 1 [] 0 (tcT xss r.1).2.length, int ((tcT xss r.1).2.flatten.length : Nat), .junk, .junk, .junk, .junk, .junk, .junk, .junk, .junk, .junk, .junk, .junk, .junk, .junk, .junk, .junk, .junk, .junk, .junk, .junk, .junk, .junk, .junk, .junk, .junk, .junk, .junk, .junk, .junk, .junk, .junk, .junk, .junk, .junk, .junk, .junk, .junk, .junk, .junk, .junk, .junk, .junk, .junk, .junk, .junk, .junk, .junk, .junk, .junk, .junk, .junk, .junk, .junk, .junk, .junk, .junk, .junk, .junk, .junk, .junk, .junk, .junk, .junk, .junk, .junk, .junk, .junk, .junk, .junk, .junk, .junk, .junk], [⟨true, .sl false 1 ((tcT xss r.1).1.map bool)⟩, ⟨(tcT xss r.1).2.isEmpty, .sl false 1 ((tcR (tcT xss r.1).2).map row)⟩]⟩) (fun r => xss.length - r.1) ⟨0, by omega⟩ (by simp [sub, slotsLe, clean, keep, refsL, refs, once, place, renL, ren, List.replicate, int, bool, intss, hz1, hz3, tcR]) ?_
  rintro ⟨r, hr⟩
  simp only
  have hs := tcT_ok h (r := r)
  by_cases h0 : (tcT xss r).1.count true = 0
  · have hcs := tcT_end h hr h0
    have hcn : ((tcT xss r).2.flatten.length : Int) = xss.length := by have := hs.cnt; omega
    have hlr : (tcR (tcA xss)).length = (tcA xss).length := by simp [tcR]
    have htk : List.take (tcA xss).length (tcR (tcA xss)) = tcR (tcA xss) := List.take_of_length_le (by omega)
    rw [hcs] at hcn ⊢
    simp (config := {contextual := true}) [List.range, List.range.loop, ints, intss, int, bool, row, frac, fracs, ← List.map_take, ← List.map_drop, List.all, hcn, hlr, htk, -List.length_flatten]
    done
  have hrn : r < xss.length := by
    rcases tcT_cnt h hr with h1 | h1
    · omega
    · exact absurd h1 h0
  have hnext : tcT xss (r + 1) = tcS xss (tcT xss r) := by
    have e : tcT xss (r + 1) = if (tcT xss r).1.count true = 0 then tcT xss r else tcS xss (tcT xss r) := rfl
    rw [e, if_neg h0]
  have hlt : ((tcT xss r).2.flatten.length : Int) < xss.length := by have := hs.cnt; omega
  have hsn := tcS_ok h hs
  generalize htt : tcT xss r = s at hs h0 hnext hlt hsn ⊢
  obtain ⟨bs, cs⟩ := s
  simp only at h0 hlt ⊢
  have hbl := hs.bl
  simp only at hbl
  have hex := some_left h0
  have hcsl : cs.length ≤ 5 ∧ cs.flatten.length ≤ 5 := by
    have := hs.one; have := hs.cnt
    simp only at *; omega
  have hflat : ∀ k, k ≤ xss.length → (cycs xss bs (lvT bs k)).flatten.length ≤ xss.length ∧ (cycs xss bs (lvT bs k)).length ≤ (cycs xss bs (lvT bs k)).flatten.length := fun k hk => by
    have hin := cycs_in h hbl (l := lvT bs k) (lvT_in (by omega))
    refine ⟨way_len (cycs_nodup (List.Nodup.sublist List.filter_sublist List.nodup_range)) fun x hx => ?_, flat_ge fun c hc => (hin c hc).1⟩
    obtain ⟨c, hc, hx⟩ := List.mem_flatten.1 hx
    obtain ⟨i, rfl, e⟩ := lvs_mem.1 ((hin c hc).2 x hx)
    have := lvN_lt (lvN_mem.2 e)
    omega
  generalize hcf : cs.flatten.length = cf at *
  simp (config := {contextual := true}) [List.range, List.range.loop, ints, intss, int, bool, row, frac, fracs, ← List.map_take, ← List.map_drop, List.all, hlt, hbl]
  refine awp_range (live := [true, false, true, true, true, true, true, true, true, true, false, true, false, true, false, false, true, false, false, true, true, true, false, false, false, false, false, false, false, false, true, false, true, true, true, true, false, false, false, false, true, false, false, false, false, false, false, true, false, false, false, false, false, true, true, true, true, false, false, true, true, true, true]) (ctxH_ok eqOk hG hM hV hK) mixed [true, false, false, true, true, true, true, false, false, false, false, false, false, false, false, false, false, false, false, false, false, false, false, false, false, false, false, false, false, false, false, false, true, true, true] (xss.length) (fun k => True) (fun k => ⟨[intss nl xss, .junk, .junk, .ref 0 [] 0 xss.length, .ref 1 [] 0 cs.length, int (cf : Int), .ref 2 [] 0 (cycs xss bs (lvT bs k)).length, .junk, .junk, .junk, .junk, .junk, .junk, .junk, .junk, .junk, .junk, .junk, .junk, .junk, .junk, .junk, .junk, .junk, .junk, .junk, .junk, .junk, .junk, .junk, .junk, .junk, .ref 0 [] 0 xss.length, int xss.length, int k, .junk, .junk, .junk, .junk, .junk, .junk, .junk, .junk, .junk, .junk, .junk, .junk, .junk, .junk, .junk, .junk, .junk, .junk, .junk, .junk, .junk, .junk, .junk, .junk, .junk, .junk, .junk, .junk, .junk, .junk, .junk, .junk, .junk, .junk, .junk, .junk, .junk, .junk, .junk, .junk, .junk, .junk], [⟨true, .sl false 1 (bs.map bool)⟩, ⟨cs.isEmpty, .sl false 1 ((tcR cs).map row)⟩, ⟨(cycs xss bs (lvT bs k)).isEmpty, .sl false 1 ((tcR (cycs xss bs (lvT bs k))).map row)⟩]⟩) ?_ (by simp [sub, slotsLe, clean, keep, refsL, refs, once, place, renL, ren, List.replicate, int, bool, intss, cycs, lvT, tcR]) ?_ ?_ ?_
  · omega
  · trivial
  · intro k hk _ hwk
    have hkb : k < bs.length := by omega
    have hgd : bs.getD k false = bs[k] := by simp [List.getD_eq_getElem?_getD, hkb]
    have hls := lvT_succ (bs := bs) (k := k)
    have htb : List.take xss.length bs = bs := List.take_of_length_le (by omega)
    cases hb : bs[k] with
    | false =>
      rw [hgd, hb] at hls
      simp only [Bool.false_eq_true, if_false, List.append_nil] at hls
      rw [hls]
      simp (config := {contextual := true}) [List.range, List.range.loop, ints, intss, int, bool, row, frac, fracs, ← List.map_take, ← List.map_drop, List.all, hbl, hk, hkb, hb, hwk]
      done
    | true =>
      rw [hgd, hb] at hls
      simp only [if_true] at hls
      have hl22 := mL22C_at nl xss bs (k : Int) ⟨h, hbl, hex, by omega, by omega⟩
      have hc1 : cyS (nx xss bs) (k : Int) (xss.length + 1) [] (k : Int) = cyc1 xss bs k := rfl
      rw [hc1] at hl22
      obtain ⟨f1, f2⟩ := hflat k (by omega)
      have hco := cycs_one (xss := xss) (bs := bs) (l := lvT bs k) (i := k)
      rw [← hls] at hco
      have hin := cycs_in h hbl (l := lvT bs (k + 1)) (lvT_in (by omega))
      rw [hco] at hin
      rw [hco]
      generalize cycs xss bs (lvT bs k) = Ck at *
      cases hcy : cyc1 xss bs k with
      | none =>
        rw [hcy] at hl22
        simp only [cyAV] at hl22
        simp (config := {contextual := true}) [List.range, List.range.loop, ints, intss, int, bool, row, frac, fracs, ← List.map_take, ← List.map_drop, List.all, hbl, hk, hkb, hb, hwk, htb, hl22]
        done
      | some q =>
        rw [hcy] at hl22 hin
        simp only [cyAV] at hl22
        have hqn : q ≠ [] := (hin q (by simp)).1
        have hq0 : 0 < q.length := List.length_pos_iff.2 hqn
        have hrl : (tcR Ck).length = Ck.length := by simp [tcR]
        have hbb : Ck.length + 1 ≤ 4611686018427387904 ∧ (Ck.length + 1) * 24 ≤ 140737488355328 := by omega
        have htk : List.take Ck.length (tcR Ck) = tcR Ck := List.take_of_length_le (by omega)
        have hrs : (tcR (Ck ++ [q])).map row = (tcR Ck).map row ++ [.sl false 1 (q.map int)] := by simp [tcR, row, ints]
        have hie : (Ck ++ [q]).isEmpty = false := by cases Ck <;> rfl
        simp only
        simp (config := {contextual := true}) [List.range, List.range.loop, ints, intss, int, bool, row, frac, fracs, ← List.map_take, ← List.map_drop, List.all, hbl, hk, hkb, hb, hwk, htb, hl22, hq0, hrl, hbb, htk, hrs, hie]
        done
  intro _
  rw [show lvT bs xss.length = lvN bs by rw [← hbl]; exact lvT_all]
  obtain ⟨f1, f2⟩ := hflat xss.length (Nat.le_refl _)
  rw [show lvT bs xss.length = lvN bs by rw [← hbl]; exact lvT_all] at f1 f2
  have hrng : ∀ c ∈ cycs xss bs (lvN bs), ∀ x ∈ c, ∃ i : Nat, x = (i : Int) ∧ i < xss.length := fun c hc x hx => by
    obtain ⟨i, rfl, e⟩ := lvs_mem.1 ((cycs_in h hbl (l := lvN bs) (fun _ h => h) c hc).2 x hx)
    exact ⟨i, rfl, by have := lvN_lt (lvN_mem.2 e); omega⟩
  have hn1' : (tcT xss (r + 1)).1 = knock bs (cycs xss bs (lvN bs)).flatten := by rw [hnext]; rfl
  have hn2' : (tcT xss (r + 1)).2 = cs ++ cycs xss bs (lvN bs) := by rw [hnext]; rfl
  generalize cycs xss bs (lvN bs) = Cs at *
  have hrl : (tcR Cs).length = Cs.length := by simp [tcR]
  have htk : List.take Cs.length (tcR Cs) = tcR Cs := List.take_of_length_le (by omega)
  have htk2 : List.take Cs.length ((tcR Cs).map row) = (tcR Cs).map row := List.take_of_length_le (by simp [tcR])
  simp (config := {contextual := true}) [List.range, List.range.loop, ints, intss, int, bool, row, frac, fracs, ← List.map_take, ← List.map_drop, List.all, hrl, hbl]
  refine awp_rangeZ [2] (live := [true, false, true, true, true, true, true, true, true, true, false, true, false, true, false, false, true, false, false, true, true, true, false, false, false, false, false, false, false, false, true, false, true, true, true, true, false, false, false, false, true, false, false, false, false, false, false, true, false, false, false, false, false, true, true, true, true, false, false, true, true, true, true]) (ctxH_ok eqOk hG hM hV hK) mixed [true, false, false, true, true, true, false, false, false, false, false, false, false, false, false, false, false, false, false, false, false, false, false, false, false, false, false, false, false, false, false, false, false, false, false, false, false, false, false, false, false, false, false, false, false, false, false, false, false, false, false, false, false, true, true, true] (Cs.length) (fun k => True) (fun k => ⟨[intss nl xss, .junk, .junk, .ref 0 [] 0 xss.length, .ref 1 [] 0 (cs ++ Cs.take k).length, int ((cf + (Cs.take k).flatten.length : Nat) : Int), .junk, .junk, .junk, .junk, .junk, .junk, .junk, .junk, .junk, .junk, .junk, .junk, .junk, .junk, .junk, .junk, .junk, .junk, .junk, .junk, .junk, .junk, .junk, .junk, .junk, .junk, .junk, .junk, .junk, .junk, .junk, .junk, .junk, .junk, .junk, .junk, .junk, .junk, .junk, .junk, .junk, .junk, .junk, .junk, .junk, .junk, .junk, .sl false 1 ((tcR Cs).map row), int Cs.length, int k, .junk, .junk, .junk, .junk, .junk, .junk, .junk, .junk, .junk, .junk, .junk, .junk, .junk, .junk, .junk, .junk, .junk, .junk, .junk, .junk, .junk], [⟨true, .sl false 1 ((knock bs (Cs.take k).flatten).map bool)⟩, ⟨(cs ++ Cs.take k).isEmpty, .sl false 1 ((tcR (cs ++ Cs.take k)).map row)⟩]⟩) ?_ (by simp [sub, slotsLe, clean, keep, refsL, refs, once, place, renL, ren, List.replicate, int, bool, intss, freeze, frzA, frzAL, res, getAt, sets, viewEs, hrl, htk, htk2, knock]) ?_ ?_ ?_
  · omega
  · trivial
  · intro k hk _ hwk
    have hkl : k < (tcR Cs).length := by omega
    have hgk : (tcR Cs)[k] = (false, Cs[k]) := by simp [tcR]
    have hfk := flat_take hk
    have htk1 : Cs.take (k + 1) = Cs.take k ++ [Cs[k]] := List.take_succ_eq_append_getElem hk
    have hcm : ∀ x ∈ Cs[k], ∃ i : Nat, x = (i : Int) ∧ i < xss.length := hrng _ (List.getElem_mem hk)
    have hfl1 : (Cs.take k).flatten.length + Cs[k].length ≤ xss.length := by
      have e : Cs.flatten = (Cs.take (k + 1)).flatten ++ (Cs.drop (k + 1)).flatten := by rw [← List.flatten_append, List.take_append_drop]
      have e2 : Cs.flatten.length = (Cs.take (k + 1)).flatten.length + (Cs.drop (k + 1)).flatten.length := by rw [e, List.length_append]
      have e3 : (Cs.take (k + 1)).flatten.length = (Cs.take k).flatten.length + Cs[k].length := by rw [hfk, List.length_append]
      omega
    have htkl : (Cs.take k).length = k := by simp; omega
    rw [hfk, htk1]
    generalize (Cs.take k).flatten = F at *
    generalize hD : Cs.take k = D at *
    generalize hc : Cs[k] = c at *
    have hDl : (tcR (cs ++ D)).length = cs.length + D.length := by simp [tcR]
    have hbb : cs.length + D.length + 1 ≤ 4611686018427387904 ∧ (cs.length + D.length + 1) * 24 ≤ 140737488355328 := by omega
    have htD : List.take (cs.length + D.length) (tcR (cs ++ D)) = tcR (cs ++ D) := List.take_of_length_le (by omega)
    have hrs : (tcR (cs ++ (D ++ [c]))).map row = (tcR (cs ++ D)).map row ++ [.sl false 1 (c.map int)] := by simp [tcR, row, ints]
    have hie : (cs ++ (D ++ [c])).isEmpty = false := by cases cs <;> cases D <;> rfl
    have hkn0 := knock_len (l := F) (bs := bs)
    simp (config := {contextual := true}) [List.range, List.range.loop, ints, intss, int, bool, row, frac, fracs, ← List.map_take, ← List.map_drop, List.all, hk, hkl, hgk]
    refine awp_range (live := [true, false, true, true, true, true, true, true, true, true, false, true, false, true, false, false, true, false, false, true, true, true, false, false, false, false, false, false, false, false, true, false, true, true, true, true, false, false, false, false, true, false, false, false, false, false, false, true, false, false, false, false, false, true, true, true, true, false, false, true, true, true, true]) (ctxH_ok eqOk hG hM hV hK) mixed [true, false, false, true, true, true, false, false, false, false, false, true, false, false, false, false, false, false, false, false, false, false, false, false, false, false, false, false, false, false, false, false, false, false, false, false, false, false, false, false, false, false, false, false, false, false, false, false, false, false, false, false, false, true, true, true, false, false, false, true, true, true] (c.length) (fun m => True) (fun m => ⟨[intss nl xss, .junk, .junk, .ref 0 [] 0 xss.length, .ref 1 [] 0 (cs ++ D).length, int ((cf + F.length + m : Nat) : Int), .junk, .junk, .junk, .junk, .junk, .sl false 1 (c.map int), .junk, .junk, .junk, .junk, .junk, .junk, .junk, .junk, .junk, .junk, .junk, .junk, .junk, .junk, .junk, .junk, .junk, .junk, .junk, .junk, .junk, .junk, .junk, .junk, .junk, .junk, .junk, .junk, .junk, .junk, .junk, .junk, .junk, .junk, .junk, .junk, .junk, .junk, .junk, .junk, .junk, .sl false 1 ((tcR Cs).map row), int Cs.length, int (k : Int), .junk, .junk, .junk, .sl false 1 (c.map int), int c.length, int m, .junk, .junk, .junk, .junk, .junk, .junk, .junk, .junk, .junk, .junk, .junk, .junk, .junk, .junk, .junk], [⟨true, .sl false 1 ((knock bs (F ++ c.take m)).map bool)⟩, ⟨(cs ++ D).isEmpty, .sl false 1 ((tcR (cs ++ D)).map row)⟩]⟩) ?_ (by simp [sub, slotsLe, clean, keep, refsL, refs, once, place, renL, ren, List.replicate, int, bool, intss, ints]) ?_ ?_ ?_
    · omega
    · trivial
    · intro m hm _ hwm
      obtain ⟨i, hci, hin⟩ := hcm c[m] (List.getElem_mem hm)
      have hkl1 := knock_len (l := F ++ c.take m) (bs := bs)
      have htm : c.take (m + 1) = c.take m ++ [(i : Int)] := by rw [List.take_succ_eq_append_getElem hm, hci]
      have hks : knock bs (F ++ c.take (m + 1)) = (knock bs (F ++ c.take m)).set i false := by
        rw [htm, ← List.append_assoc, knock_app]; simp [knock]
      have hset : ((knock bs (F ++ c.take m)).map bool).set i (.v (.bool false)) = (knock bs (F ++ c.take (m + 1))).map bool := by rw [hks, List.map_set]; rfl
      generalize knock bs (F ++ c.take m) = B at *
      generalize knock bs (F ++ c.take (m + 1)) = B' at *
      have hw : IntKind.i64.wrap (((cf + F.length + m : Nat) : Int) + 1) = ((cf + F.length + (m + 1) : Nat) : Int) := by rw [wrapI (by omega) (by omega)]; omega
      have hw' : IntKind.i64.wrap ((cf : Int) + (F.length : Int) + (m : Int) + 1) = (cf : Int) + (F.length : Int) + ((m : Int) + 1) := by rw [wrapI (by omega) (by omega)]; omega
      simp (config := {contextual := true}) [List.range, List.range.loop, ints, intss, int, bool, row, frac, fracs, ← List.map_take, ← List.map_drop, List.all, hm, hci, hin, hkl1, hbl, hset, hwm, hw, hw', -List.map_set]
      done
    · intro _
      rw [List.take_length]
      simp (config := {contextual := true}) [List.range, List.range.loop, ints, intss, int, bool, row, frac, fracs, ← List.map_take, ← List.map_drop, List.all, hDl, hbb, htD, hrs, hie, hwk]
      exact ⟨by omega, by omega⟩
  · intro _
    rw [List.take_length]
    have hcf' : (List.map List.length cs).sum = cf := by rw [← hcf, List.length_flatten]
    simp (config := {contextual := true}) [List.range, List.range.loop, ints, intss, int, bool, row, frac, fracs, ← List.map_take, ← List.map_drop, List.all]
    exact ⟨⟨r + 1, by omega⟩, by simp [sub, slotsLe, clean, keep, refsL, refs, once, place, renL, ren, List.replicate, int, bool, hn1', hn2', hcf', intss], by simp; omega⟩

end Go.Proofs.YtlkgppincgpfjaaDoor.Ax

/-
  Contracts: ExchangeBy (both programs). No condition.
-/
namespace Go.Proofs.YtlkgppincgpfjaaDoor.Ax
open Go Go.RowKit
set_option linter.unusedSimpArgs false
set_option linter.unusedVariables false

/-- Each of the first k of a cycle gets the house of the next one. -/
def exC (c : List Int) : Nat → List Int → List Int
  | 0, o => o
  | k + 1, o => (exC c k o).set (c.getD k 0).toNat (c.getD ((k + 1) % c.length) 0)
def exT (n : Nat) (cs : List (List Int)) : Nat → List Int
  | 0 => List.replicate n 0
  | k + 1 => exC (cs.getD k []) (cs.getD k []).length (exT n cs k)
theorem exC_len {c : List Int} {o : List Int} : ∀ {k : Nat}, (exC c k o).length = o.length
  | 0 => rfl
  | k + 1 => by rw [exC, List.length_set, exC_len]
theorem exT_len {n : Nat} {cs : List (List Int)} : ∀ {k : Nat}, (exT n cs k).length = n
  | 0 => by simp [exT]
  | k + 1 => by rw [exT, exC_len, exT_len]
theorem exC_in {c : List Int} {n : Nat} (hc : ∀ x ∈ c, 0 ≤ x ∧ x < (n : Int)) {o : List Int} (ho : ∀ x ∈ o, 0 ≤ x ∧ x ≤ (n : Int)) : ∀ {k : Nat}, k ≤ c.length → ∀ x ∈ exC c k o, 0 ≤ x ∧ x ≤ (n : Int)
  | 0, _, x, hx => ho x hx
  | k + 1, hk, x, hx => by
    rw [exC] at hx
    rcases List.mem_or_eq_of_mem_set hx with h | h
    · exact exC_in hc ho (by omega) x h
    · subst h
      have hm : (k + 1) % c.length < c.length := Nat.mod_lt _ (by omega)
      rw [List.getD_eq_getElem?_getD, List.getElem?_eq_getElem hm, Option.getD_some]
      have := hc _ (List.getElem_mem hm)
      omega
theorem exT_in {n : Nat} {cs : List (List Int)} (hc : ∀ c ∈ cs, ∀ x ∈ c, 0 ≤ x ∧ x < (n : Int)) : ∀ {k : Nat}, k ≤ cs.length → ∀ x ∈ exT n cs k, 0 ≤ x ∧ x ≤ (n : Int)
  | 0, _, x, hx => by simp only [exT, List.mem_replicate] at hx; omega
  | k + 1, hk, x, hx => by
    rw [exT] at hx
    have e : cs.getD k [] = cs[k] := by simp [List.getD_eq_getElem?_getD, show k < cs.length by omega]
    rw [e] at hx
    exact exC_in (hc _ (List.getElem_mem _)) (exT_in hc (by omega)) (Nat.le_refl _) x hx
/-- The exchange by the cycles. -/
def exL (xss : List (Bool × List Int)) : List Int := exT xss.length (tcA xss) (tcA xss).length
noncomputable def mExB : List AV → Option AV := mk (fun p => housesB p.2 = true) (fun (p : (Bool) × (List (Bool × List Int))) => [intss p.1 p.2]) (fun p => .sl false 1 ((exL p.2).map int))
theorem mExB_at (nl : Bool) (xss : List (Bool × List Int)) (hpre : housesB xss = true) : mExB [.sl nl 1 (xss.map row)] = some (.sl false 1 ((exL xss).map int)) :=
  mk_eq (enc := fun (p : (Bool) × (List (Bool × List Int))) => [intss p.1 p.2]) (x := (nl, xss)) (by rintro ⟨a0, a1⟩ ⟨b0, b1⟩ h; simp [ints, intss, int, bool, row, frac, fracs, map_int_inj, map_row_inj, frac_inj, map_frac_inj] at h; simp [h]) hpre

theorem tcA_ok {xss : List (Bool × List Int)} (h : H5 xss) : (tcA xss).length ≤ 5 ∧ (∀ c ∈ tcA xss, c.length ≤ 5 ∧ ∀ x ∈ c, ∃ i : Nat, x = (i : Int) ∧ i < xss.length) := by
  have hs := tcT_ok h (r := xss.length)
  have h1 := hs.one
  have h2 := hs.cnt
  have h5 := h.n5
  refine ⟨by unfold tcA; omega, fun c hc => ⟨?_, fun x hx => ?_⟩⟩
  · have : c.length ≤ (tcA xss).flatten.length := by
      obtain ⟨k, hk, rfl⟩ := List.getElem_of_mem hc
      have e : (tcA xss).flatten = ((tcA xss).take (k + 1)).flatten ++ ((tcA xss).drop (k + 1)).flatten := by rw [← List.flatten_append, List.take_append_drop]
      rw [e, flat_take hk, List.length_append, List.length_append]; omega
    unfold tcA at this; omega
  · have := hs.rng c hc x hx
    exact ⟨x.toNat, by omega, by omega⟩

set_option maxRecDepth 16000 in
set_option maxHeartbeats 4000000 in
theorem implExch_ok : FnOk Tryd.prog 44 mExB := by
  refine mk_ok fun ⟨nl, xss⟩ hh => ?_
  simp only at hh
  have h := h5_of hh
  have hn1 := h.n1
  have hn5 := h.n5
  have htc := mTc_at nl xss hh
  obtain ⟨hcl, hca⟩ := tcA_ok h
  have hb : 8 * xss.length ≤ 281474976710656 ∧ xss.length ≤ 4611686018427387904 ∧ xss.length ≤ 281474976710656 := by omega
  have hz0 : List.replicate xss.length (AV.v (.int .i64 0)) = (exT xss.length (tcA xss) 0).map int := by simp [exT, int]
  have hexl : exL xss = exT xss.length (tcA xss) (tcA xss).length := rfl
  rw [hexl]
  generalize tcA xss = cs at *
  have hrl : (tcR cs).length = cs.length := by simp [tcR]
  have hG : FnsOk Tryd.prog [(43, mHouses)] := (.cons implHouses_ok .nil)
  have hM : FnsMut Tryd.prog [] := .nil
  have hV : FnsMov Tryd.prog [] := .nil
  have hK : FnsFrz Tryd.prog [(45, true, mTc)] := (.cons implTop_ok .nil)
  refine callOk_awp (ctxH_ok eqOk hG hM hV hK) mixed (live := [true, false, true, true, false, true, true, true, false, false, true, false, false, false, false, true, true, true, true, false, false, true, true, true, true]) (dt := []) Tryd.func44 rfl (by kernel_rfl) (by kernel_rfl) fun w0 hlens => ?_
  clear hlens
  simp (config := {contextual := true}) [Tryd.f44, List.range, List.range.loop, ints, intss, int, bool, row, frac, fracs, ← List.map_take, ← List.map_drop, List.all, mHouses_at, hh, hb, htc, hz0, hrl]
  refine awp_range (live := [true, false, true, true, false, true, true, true, false, false, true, false, false, false, false, true, true, true, true, false, false, true, true, true, true]) (ctxH_ok eqOk hG hM hV hK) mixed [false, false, false, true, false, false, false, false, false, false, false, false, false, false, false, true, true, true] (cs.length) (fun k => True) (fun k => ⟨[.junk, .junk, .junk, .ref 0 [] 0 xss.length, .junk, .junk, .junk, .junk, .junk, .junk, .junk, .junk, .junk, .junk, .junk, .sl false 1 ((tcR cs).map row), int cs.length, int k, .junk, .junk, .junk, .junk, .junk, .junk, .junk, .junk, .junk, .junk, .junk, .junk, .junk, .junk, .junk, .junk, .junk, .junk, .junk, .junk, .junk, .junk, .junk, .junk], [⟨true, .sl false 1 ((exT xss.length cs k).map int)⟩]⟩) ?_ (by simp [sub, slotsLe, clean, keep, refsL, refs, once, place, renL, ren, List.replicate, int, bool, hz0, intss]) ?_ ?_ ?_
  · omega
  · trivial
  · intro k hk _ hwk
    have hkl : k < (tcR cs).length := by omega
    have hgk : (tcR cs)[k] = (false, cs[k]) := by simp [tcR]
    obtain ⟨hc5, hci⟩ := hca cs[k] (List.getElem_mem hk)
    have hnx : exT xss.length cs (k + 1) = exC cs[k] cs[k].length (exT xss.length cs k) := by
      rw [exT, show cs.getD k [] = cs[k] by simp [List.getD_eq_getElem?_getD, hk]]
    rw [hnx]
    have hol := exT_len (n := xss.length) (cs := cs) (k := k)
    generalize exT xss.length cs k = o at *
    generalize hc : cs[k] = c at *
    simp (config := {contextual := true}) [List.range, List.range.loop, ints, intss, int, bool, row, frac, fracs, ← List.map_take, ← List.map_drop, List.all, hk, hkl, hgk]
    refine awp_range (live := [true, false, true, true, false, true, true, true, false, false, true, false, false, false, false, true, true, true, true, false, false, true, true, true, true]) (ctxH_ok eqOk hG hM hV hK) mixed [false, false, false, true, false, true, false, false, false, false, false, false, false, false, false, true, true, true, false, false, false, true, true, true] (c.length) (fun m => True) (fun m => ⟨[.junk, .junk, .junk, .ref 0 [] 0 xss.length, .junk, .sl false 1 (c.map int), .junk, .junk, .junk, .junk, .junk, .junk, .junk, .junk, .junk, .sl false 1 ((tcR cs).map row), int cs.length, int (k : Int), .junk, .junk, .junk, .sl false 1 (c.map int), int c.length, int m, .junk, .junk, .junk, .junk, .junk, .junk, .junk, .junk, .junk, .junk, .junk, .junk, .junk, .junk, .junk, .junk, .junk, .junk], [⟨true, .sl false 1 ((exC c m o).map int)⟩]⟩) ?_ (by simp [sub, slotsLe, clean, keep, refsL, refs, once, place, renL, ren, List.replicate, int, bool, ints, exC]) ?_ ?_ ?_
    · omega
    · trivial
    · intro m hm _ hwm
      obtain ⟨i, hcm, hin⟩ := hci c[m] (List.getElem_mem hm)
      have hmod : (m + 1) % c.length < c.length := Nat.mod_lt _ (by omega)
      have hel := exC_len (c := c) (o := o) (k := m)
      rw [hol] at hel
      obtain ⟨z, hz⟩ : ∃ z : Nat, z = (m + 1) % c.length := ⟨_, rfl⟩
      have hzl : z < c.length := by omega
      have hrem : ((m : Int) + 1) % (c.length : Int) = (z : Int) := by rw [show (m : Int) + 1 = ((m + 1 : Nat) : Int) by omega, hz]; rfl
      have hrem2 : Int.tmod ((m : Int) + 1) (c.length : Int) = (z : Int) := by rw [show (m : Int) + 1 = ((m + 1 : Nat) : Int) by omega, hz]; rfl
      have hset : ((exC c m o).map int).set i (.v (.int .i64 c[z])) = (exC c (m + 1) o).map int := by
        have e1 : c.getD m 0 = (i : Int) := by rw [List.getD_eq_getElem?_getD, List.getElem?_eq_getElem hm]; exact hcm
        have e2 : c.getD ((m + 1) % c.length) 0 = c[z] := by rw [← hz, List.getD_eq_getElem?_getD, List.getElem?_eq_getElem hzl]; rfl
        rw [exC, e1, e2, Int.toNat_natCast, List.map_set]; rfl
      clear hz hmod
      have hcz : ¬ c.length = 0 := by omega
      generalize exC c m o = p at *
      generalize exC c (m + 1) o = p' at *
      simp (config := {contextual := true}) [List.range, List.range.loop, ints, intss, int, bool, row, frac, fracs, ← List.map_take, ← List.map_drop, List.all, hm, hcm, hin, hzl, hel, hrem, hrem2, hset, hcz, hwm, -List.map_set]
      done
    · intro _
      simp (config := {contextual := true}) [List.range, List.range.loop, ints, intss, int, bool, row, frac, fracs, ← List.map_take, ← List.map_drop, List.all, hwk]
      done
  · intro _
    have hol := exT_len (n := xss.length) (cs := cs) (k := cs.length)
    have hto : List.take xss.length (exT xss.length cs cs.length) = exT xss.length cs cs.length := List.take_of_length_le (by omega)
    simp (config := {contextual := true}) [List.range, List.range.loop, ints, intss, int, bool, row, frac, fracs, ← List.map_take, ← List.map_drop, List.all, hol, hto]
    done

set_option maxRecDepth 16000 in
set_option maxHeartbeats 4000000 in
theorem specExch_ok : FnOk Tryd.prog 41 mExB := by
  refine mk_ok fun ⟨nl, xss⟩ hh => ?_
  simp only at hh
  have h := h5_of hh
  have hn1 := h.n1
  have hn5 := h.n5
  have htc := mTc_at nl xss hh
  obtain ⟨hcl, hca⟩ := tcA_ok h
  have hb : 8 * xss.length ≤ 281474976710656 ∧ xss.length ≤ 4611686018427387904 ∧ xss.length ≤ 281474976710656 := by omega
  have hz0 : List.replicate xss.length (AV.v (.int .i64 0)) = (exT xss.length (tcA xss) 0).map int := by simp [exT, int]
  have hexl : exL xss = exT xss.length (tcA xss) (tcA xss).length := rfl
  rw [hexl]
  generalize tcA xss = cs at *
  have hrl : (tcR cs).length = cs.length := by simp [tcR]
  have hG : FnsOk Tryd.prog [(40, mHouses)] := (.cons specHouses_ok .nil)
  have hM : FnsMut Tryd.prog [] := .nil
  have hV : FnsMov Tryd.prog [] := .nil
  have hK : FnsFrz Tryd.prog [(42, true, mTc)] := (.cons specTop_ok .nil)
  refine callOk_awp (ctxH_ok eqOk hG hM hV hK) mixed (live := [true, false, true, true, false, true, true, true, false, false, true, false, false, false, false, true, true, true, true, false, false, true, true, true, true]) (dt := []) Tryd.func41 rfl (by kernel_rfl) (by kernel_rfl) fun w0 hlens => ?_
  clear hlens
  simp (config := {contextual := true}) [Tryd.f41, List.range, List.range.loop, ints, intss, int, bool, row, frac, fracs, ← List.map_take, ← List.map_drop, List.all, mHouses_at, hh, hb, htc, hz0, hrl]
  refine awp_range (live := [true, false, true, true, false, true, true, true, false, false, true, false, false, false, false, true, true, true, true, false, false, true, true, true, true]) (ctxH_ok eqOk hG hM hV hK) mixed [false, false, false, true, false, false, false, false, false, false, false, false, false, false, false, true, true, true] (cs.length) (fun k => True) (fun k => ⟨[.junk, .junk, .junk, .ref 0 [] 0 xss.length, .junk, .junk, .junk, .junk, .junk, .junk, .junk, .junk, .junk, .junk, .junk, .sl false 1 ((tcR cs).map row), int cs.length, int k, .junk, .junk, .junk, .junk, .junk, .junk, .junk, .junk, .junk, .junk, .junk, .junk, .junk, .junk, .junk, .junk, .junk, .junk, .junk, .junk, .junk, .junk, .junk, .junk], [⟨true, .sl false 1 ((exT xss.length cs k).map int)⟩]⟩) ?_ (by simp [sub, slotsLe, clean, keep, refsL, refs, once, place, renL, ren, List.replicate, int, bool, hz0, intss]) ?_ ?_ ?_
  · omega
  · trivial
  · intro k hk _ hwk
    have hkl : k < (tcR cs).length := by omega
    have hgk : (tcR cs)[k] = (false, cs[k]) := by simp [tcR]
    obtain ⟨hc5, hci⟩ := hca cs[k] (List.getElem_mem hk)
    have hnx : exT xss.length cs (k + 1) = exC cs[k] cs[k].length (exT xss.length cs k) := by
      rw [exT, show cs.getD k [] = cs[k] by simp [List.getD_eq_getElem?_getD, hk]]
    rw [hnx]
    have hol := exT_len (n := xss.length) (cs := cs) (k := k)
    generalize exT xss.length cs k = o at *
    generalize hc : cs[k] = c at *
    simp (config := {contextual := true}) [List.range, List.range.loop, ints, intss, int, bool, row, frac, fracs, ← List.map_take, ← List.map_drop, List.all, hk, hkl, hgk]
    refine awp_range (live := [true, false, true, true, false, true, true, true, false, false, true, false, false, false, false, true, true, true, true, false, false, true, true, true, true]) (ctxH_ok eqOk hG hM hV hK) mixed [false, false, false, true, false, true, false, false, false, false, false, false, false, false, false, true, true, true, false, false, false, true, true, true] (c.length) (fun m => True) (fun m => ⟨[.junk, .junk, .junk, .ref 0 [] 0 xss.length, .junk, .sl false 1 (c.map int), .junk, .junk, .junk, .junk, .junk, .junk, .junk, .junk, .junk, .sl false 1 ((tcR cs).map row), int cs.length, int (k : Int), .junk, .junk, .junk, .sl false 1 (c.map int), int c.length, int m, .junk, .junk, .junk, .junk, .junk, .junk, .junk, .junk, .junk, .junk, .junk, .junk, .junk, .junk, .junk, .junk, .junk, .junk], [⟨true, .sl false 1 ((exC c m o).map int)⟩]⟩) ?_ (by simp [sub, slotsLe, clean, keep, refsL, refs, once, place, renL, ren, List.replicate, int, bool, ints, exC]) ?_ ?_ ?_
    · omega
    · trivial
    · intro m hm _ hwm
      obtain ⟨i, hcm, hin⟩ := hci c[m] (List.getElem_mem hm)
      have hmod : (m + 1) % c.length < c.length := Nat.mod_lt _ (by omega)
      have hel := exC_len (c := c) (o := o) (k := m)
      rw [hol] at hel
      obtain ⟨z, hz⟩ : ∃ z : Nat, z = (m + 1) % c.length := ⟨_, rfl⟩
      have hzl : z < c.length := by omega
      have hrem : ((m : Int) + 1) % (c.length : Int) = (z : Int) := by rw [show (m : Int) + 1 = ((m + 1 : Nat) : Int) by omega, hz]; rfl
      have hrem2 : Int.tmod ((m : Int) + 1) (c.length : Int) = (z : Int) := by rw [show (m : Int) + 1 = ((m + 1 : Nat) : Int) by omega, hz]; rfl
      have hset : ((exC c m o).map int).set i (.v (.int .i64 c[z])) = (exC c (m + 1) o).map int := by
        have e1 : c.getD m 0 = (i : Int) := by rw [List.getD_eq_getElem?_getD, List.getElem?_eq_getElem hm]; exact hcm
        have e2 : c.getD ((m + 1) % c.length) 0 = c[z] := by rw [← hz, List.getD_eq_getElem?_getD, List.getElem?_eq_getElem hzl]; rfl
        rw [exC, e1, e2, Int.toNat_natCast, List.map_set]; rfl
      clear hz hmod
      have hcz : ¬ c.length = 0 := by omega
      generalize exC c m o = p at *
      generalize exC c (m + 1) o = p' at *
      simp (config := {contextual := true}) [List.range, List.range.loop, ints, intss, int, bool, row, frac, fracs, ← List.map_take, ← List.map_drop, List.all, hm, hcm, hin, hzl, hel, hrem, hrem2, hset, hcz, hwm, -List.map_set]
      done
    · intro _
      simp (config := {contextual := true}) [List.range, List.range.loop, ints, intss, int, bool, row, frac, fracs, ← List.map_take, ← List.map_drop, List.all, hwk]
      done
  · intro _
    have hol := exT_len (n := xss.length) (cs := cs) (k := cs.length)
    have hto : List.take xss.length (exT xss.length cs cs.length) = exT xss.length cs cs.length := List.take_of_length_le (by omega)
    simp (config := {contextual := true}) [List.range, List.range.loop, ints, intss, int, bool, row, frac, fracs, ← List.map_take, ← List.map_drop, List.all, hol, hto]
    done

end Go.Proofs.YtlkgppincgpfjaaDoor.Ax

/-
  Contracts: HouseLine (both programs). No condition.
-/
namespace Go.Proofs.YtlkgppincgpfjaaDoor.Ax
open Go Go.RowKit
set_option linter.unusedSimpArgs false

theorem tcR_ok {xss : List (Bool × List Int)} (h : H5 xss) : tabOk (tcR (tcA xss)) := by
  obtain ⟨h1, h2⟩ := tcA_ok h
  have h5 := h.n5
  refine ⟨by simp [tcR]; omega, fun r hr => ?_⟩
  obtain ⟨c, hc, rfl⟩ := List.mem_map.1 hr
  obtain ⟨h3, h4⟩ := h2 c hc
  refine ⟨by simp only; omega, fun x hx => ?_⟩
  obtain ⟨i, rfl, hi⟩ := h4 x hx
  exact inI_small (by omega)
theorem exL_ok {xss : List (Bool × List Int)} (h : H5 xss) : numOk (exL xss) := by
  have h5 := h.n5
  have hs := tcT_ok h (r := xss.length)
  refine ⟨by unfold exL; rw [exT_len]; omega, fun x hx => ?_⟩
  have := exT_in (n := xss.length) (cs := tcA xss) (fun c hc x hx => hs.rng c hc x hx) (Nat.le_refl _) x hx
  exact inI_small (by omega)
noncomputable def houS (xss : List (Bool × List Int)) : ByteArray := if housesB xss = true then linkS (numS (exL xss)) (tabS (tcR (tcA xss))) else ⟨#[110, 111, 110, 101]⟩
noncomputable def mHou : List AV → Option AV := mk (fun _ => True) (fun (p : (Bool) × (List (Bool × List Int))) => [intss p.1 p.2]) (fun p => .v (.string (houS p.2)))
theorem mHou_at (nl : Bool) (xss : List (Bool × List Int)) : mHou [.sl nl 1 (xss.map row)] = some (.v (.string (houS xss))) :=
  mk_eq (enc := fun (p : (Bool) × (List (Bool × List Int))) => [intss p.1 p.2]) (x := (nl, xss)) (by rintro ⟨a0, a1⟩ ⟨b0, b1⟩ h; simp [ints, intss, int, bool, row, frac, fracs, map_int_inj, map_row_inj, frac_inj, map_frac_inj] at h; simp [h]) trivial

theorem tabS_size {xss : List (Bool × List Int)} (h : tabOk xss) : (tabS xss).size ≤ 22020098 * xss.length + 1 := by
  have e : ∀ b : ByteArray, b.size = (bl b).length := fun b => by simp [bl]
  rw [e]
  unfold tabS
  split
  · exact Nat.le_add_left _ _
  · unfold joinS
    rw [bl_mk]
    have hl := join_len (c := 22020097) (sep := bl ⟨#[59]⟩) (ws := (xss.map rowS).map bl) (by
      intro w hw
      simp only [List.map_map, List.mem_map, Function.comp_apply] at hw
      obtain ⟨r, hr, rfl⟩ := hw
      have := numS_len (h.2 r hr).2
      have := (h.2 r hr).1
      unfold rowS
      omega)
    have e1 : (bl ⟨#[59]⟩).length = 1 := rfl
    rw [List.length_map, List.length_map, e1] at hl
    omega

set_option maxHeartbeats 1000000 in
theorem implHouse_ok : FnOk Tryd.prog 16 mHou := by
  refine mk_ok fun ⟨nl, xss⟩ _ => ?_
  have hG : FnsOk Tryd.prog [(43, mHouses), (44, mExB), (31, mFNum), (34, mFTab)] := (.cons implHouses_ok (.cons implExch_ok (.cons implFormatNumbers_ok (.cons implFormatTable_ok .nil))))
  have hM : FnsMut Tryd.prog [] := .nil
  have hV : FnsMov Tryd.prog [] := .nil
  have hK : FnsFrz Tryd.prog [(45, true, mTc)] := (.cons implTop_ok .nil)
  refine callOk_awp (ctxH_ok eqOk hG hM hV hK) mixed (live := [true, false, true, false, false, true]) (dt := []) Tryd.func16 rfl (by kernel_rfl) (by kernel_rfl) fun w0 hlens => ?_
  clear hlens
  cases h : housesB xss with
  | false => simp (config := {contextual := true}) [Tryd.f16, List.range, List.range.loop, ints, intss, int, bool, row, frac, fracs, ← List.map_take, ← List.map_drop, List.all, mHouses_at, h, houS]
  | true =>
    have h5 := h5_of h
    have hex := mExB_at nl xss h
    have htc := mTc_at nl xss h
    have ho := exL_ok h5
    have ht := tcR_ok h5
    have h1 := mFNum_at false (exL xss) ho
    have h2 := mFTab_at false (tcR (tcA xss)) ht
    have s1 := numS_size ho.2
    have s1' := ho.1
    have s2 := tabS_size ht
    have s2' := ht.1
    have hS : houS xss = numS (exL xss) ++ ⟨#[32]⟩ ++ tabS (tcR (tcA xss)) := by unfold houS; rw [if_pos h]; rfl
    rw [hS]
    have hls := link_size (a := numS (exL xss))
    have e1 : (⟨#[32]⟩ : ByteArray).size = 1 := rfl
    have c1 : (numS (exL xss)).size + 1 ≤ 9223372036854775807 ∧ (numS (exL xss)).size + 1 + (tabS (tcR (tcA xss))).size ≤ 9223372036854775807 ∧ (numS (exL xss)).size ≤ 9223372036854775806 := by omega
    generalize exL xss = E at *
    generalize tcR (tcA xss) = R at *
    simp (config := {contextual := true}) [Tryd.f16, List.range, List.range.loop, ints, intss, int, bool, row, frac, fracs, ← List.map_take, ← List.map_drop, List.all, mHouses_at, h, hex, htc, h1, h2, hls, e1, c1]
    done

set_option maxHeartbeats 1000000 in
theorem specHouse_ok : FnOk Tryd.prog 15 mHou := by
  refine mk_ok fun ⟨nl, xss⟩ _ => ?_
  have hG : FnsOk Tryd.prog [(40, mHouses), (41, mExB), (29, mFNum), (33, mFTab)] := (.cons specHouses_ok (.cons specExch_ok (.cons specFormatNumbers_ok (.cons specFormatTable_ok .nil))))
  have hM : FnsMut Tryd.prog [] := .nil
  have hV : FnsMov Tryd.prog [] := .nil
  have hK : FnsFrz Tryd.prog [(42, true, mTc)] := (.cons specTop_ok .nil)
  refine callOk_awp (ctxH_ok eqOk hG hM hV hK) mixed (live := [true, false, true, false, false, true]) (dt := []) Tryd.func15 rfl (by kernel_rfl) (by kernel_rfl) fun w0 hlens => ?_
  clear hlens
  cases h : housesB xss with
  | false => simp (config := {contextual := true}) [Tryd.f15, List.range, List.range.loop, ints, intss, int, bool, row, frac, fracs, ← List.map_take, ← List.map_drop, List.all, mHouses_at, h, houS]
  | true =>
    have h5 := h5_of h
    have hex := mExB_at nl xss h
    have htc := mTc_at nl xss h
    have ho := exL_ok h5
    have ht := tcR_ok h5
    have h1 := mFNum_at false (exL xss) ho
    have h2 := mFTab_at false (tcR (tcA xss)) ht
    have s1 := numS_size ho.2
    have s1' := ho.1
    have s2 := tabS_size ht
    have s2' := ht.1
    have hS : houS xss = numS (exL xss) ++ ⟨#[32]⟩ ++ tabS (tcR (tcA xss)) := by unfold houS; rw [if_pos h]; rfl
    rw [hS]
    have hls := link_size (a := numS (exL xss))
    have e1 : (⟨#[32]⟩ : ByteArray).size = 1 := rfl
    have c1 : (numS (exL xss)).size + 1 ≤ 9223372036854775807 ∧ (numS (exL xss)).size + 1 + (tabS (tcR (tcA xss))).size ≤ 9223372036854775807 ∧ (numS (exL xss)).size ≤ 9223372036854775806 := by omega
    generalize exL xss = E at *
    generalize tcR (tcA xss) = R at *
    simp (config := {contextual := true}) [Tryd.f15, List.range, List.range.loop, ints, intss, int, bool, row, frac, fracs, ← List.map_take, ← List.map_drop, List.all, mHouses_at, h, hex, htc, h1, h2, hls, e1, c1]
    done

end Go.Proofs.YtlkgppincgpfjaaDoor.Ax
