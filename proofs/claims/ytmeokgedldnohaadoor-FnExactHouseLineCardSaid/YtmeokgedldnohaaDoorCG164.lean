/-
  Contract: TopCycles of the reference (its result is only read). No condition.
-/
import Derived.Test.YtmeokgedldnohaaDoorCG163
import Derived.Test.YtmeokgedldnohaaDoorCK4
namespace Go.Proofs.YtmeokgedldnohaaDoor.Ax
open Go Go.RowKit
set_option linter.unusedSimpArgs false
set_option linter.unusedVariables false

def trB (k : Nat) : List Bool := List.replicate k true
theorem trB_succ {k : Nat} : (trB k).map bool ++ [.v (.bool true)] = (trB (k + 1)).map bool := by simp [trB, List.replicate_succ', bool]
theorem trB_len {k : Nat} : (trB k).length = k := by simp [trB]

/-- The first k people of whom it is asked who is left. -/
def lvT (bs : List Bool) (k : Nat) : List Nat := (List.range k).filter fun i => bs.getD i false
theorem lvT_succ {bs : List Bool} {k : Nat} : lvT bs (k + 1) = lvT bs k ++ if bs.getD k false = true then [k] else [] := by
  unfold lvT
  rw [List.range_succ, List.filter_append]
  congr 1
  cases h : bs.getD k false
  · rw [List.getD_eq_getElem?_getD] at h; simp [h]
  · rw [List.getD_eq_getElem?_getD] at h; simp [h]
theorem lvT_all {bs : List Bool} : lvT bs bs.length = lvN bs := rfl
theorem lvT_in {bs : List Bool} {k : Nat} (hk : k ≤ bs.length) : ∀ i ∈ lvT bs k, i ∈ lvN bs := fun i hi => by
  simp only [lvT, lvN, List.mem_filter, List.mem_range] at hi ⊢
  exact ⟨by omega, hi.2⟩
theorem cycs_one {xss : List (Bool × List Int)} {bs : List Bool} {l : List Nat} {i : Nat} : cycs xss bs (l ++ [i]) = cycs xss bs l ++ (match cyc1 xss bs i with | none => [] | some r => [r]) := by
  unfold cycs
  rw [List.filterMap_append]
  congr 1
  cases hc : cyc1 xss bs i <;> simp [hc]
theorem knock_app {bs : List Bool} {l m : List Int} : knock bs (l ++ m) = knock (knock bs l) m := by unfold knock; rw [List.foldl_append]
theorem flat_take {L : List (List Int)} {k : Nat} (h : k < L.length) : (L.take (k + 1)).flatten = (L.take k).flatten ++ L[k] := by
  rw [List.take_succ_eq_append_getElem h, List.flatten_append]; simp

set_option maxRecDepth 16000 in
set_option maxHeartbeats 8000000 in
theorem specTop_ok : FnFrz Tryd.prog 38 true mTc := by
  refine mk_frz fun ⟨nl, xss⟩ hh => ?_
  simp only at hh
  have h := h5_of hh
  have hn1 := h.n1
  have hn5 := h.n5
  have hz2 : (trB 0).map bool = [] := rfl
  have hG : FnsOk Tryd.prog [(34, mHouses)] := (.cons specHouses_ok .nil)
  have hM : FnsMut Tryd.prog [] := .nil
  have hV : FnsMov Tryd.prog [] := .nil
  have hK : FnsFrz Tryd.prog [(75, false, mL22C)] := (.cons (FnOk.frz l22Cycle_ok) .nil)
  refine frzOk_awp (ctxH_ok eqOk hG hM hV hK) mixed (live := [true, false, true, true, true, true, true, true, true, true, false, true, false, true, false, false, true, false, false, true, true, true, false, false, false, false, false, false, false, false, true, false, true, true, true, true, false, false, false, false, true, false, false, false, false, false, false, true, false, false, false, false, false, true, true, true, true, false, false, true, true, true, true]) (dt := []) Tryd.func38 rfl (by kernel_rfl) (by kernel_rfl) fun A w0 hlens => ?_
  clear hlens
  simp (config := {contextual := true}) [Tryd.f38, List.range, List.range.loop, ints, intss, int, bool, row, frac, fracs, ← List.map_take, ← List.map_drop, List.all, mHouses_at, hh]
  refine awp_range (live := [true, false, true, true, true, true, true, true, true, true, false, true, false, true, false, false, true, false, false, true, true, true, false, false, false, false, false, false, false, false, true, false, true, true, true, true, false, false, false, false, true, false, false, false, false, false, false, true, false, false, false, false, false, true, true, true, true, false, false, true, true, true, true]) (ctxH_ok eqOk hG hM hV hK) mixed [true, false, false, true, false, false, false, false, false, false, false, false, false, false, false, false, false, false, false, true, true] (xss.length) (fun k => True) (fun k => ⟨[intss nl xss, .junk, .junk, .ref 0 [] 0 k, .junk, .junk, .junk, .junk, .junk, .junk, .junk, .junk, .junk, .junk, .junk, .junk, .junk, .junk, .junk, int xss.length, int k, .junk, .junk, .junk, .junk, .junk, .junk, .junk, .junk, .junk, .junk, .junk, .junk, .junk, .junk, .junk, .junk, .junk, .junk, .junk, .junk, .junk, .junk, .junk, .junk, .junk, .junk, .junk, .junk, .junk, .junk, .junk, .junk, .junk, .junk, .junk, .junk, .junk, .junk, .junk, .junk, .junk, .junk, .junk, .junk, .junk, .junk, .junk, .junk, .junk, .junk, .junk, .junk, .junk, .junk, .junk, .junk], [⟨true, .sl false 1 ((trB k).map bool)⟩]⟩) ?_ (by simp [sub, slotsLe, clean, keep, refsL, refs, once, place, renL, ren, List.replicate, int, bool, hz2, intss]) ?_ ?_ ?_
  · omega
  · trivial
  · intro k hk _ hwk
    have h1 := trB_succ (k := k)
    have h2 := trB_len (k := k)
    have q1 : k + 1 ≤ 4611686018427387904 ∧ (k + 1) ≤ 140737488355328 ∧ (k + 1) * 1 ≤ 140737488355328 := by omega
    simp (config := {contextual := true}) [List.range, List.range.loop, ints, intss, int, bool, row, frac, fracs, ← List.map_take, ← List.map_drop, List.all, hk, hwk, h1, h2, q1]
    done
  intro _
  have h2 := trB_len (k := xss.length)
  have hz1 : trB xss.length = (tcT xss 0).1 := rfl
  have hz3 : (tcT xss 0).2 = [] := rfl
  simp [List.range, List.range.loop, ints, intss, int, bool, row, frac, fracs, ← List.map_take, ← List.map_drop, List.all]
  refine awp_loop_of (live := [true, false, true, true, true, true, true, true, true, true, false, true, false, true, false, false, true, false, false, true, true, true, false, false, false, false, false, false, false, false, true, false, true, true, true, true, false, false, false, false, true, false, false, false, false, false, false, true, false, false, false, false, false, true, true, true, true, false, false, true, true, true, true]) (ctxH_ok eqOk hG hM hV hK) mixed [true, false, false, true, true, true] (α := {r : Nat // r ≤ xss.length}) (fun r => ⟨[intss nl xss, .junk, .junk, .ref 0 [] 0 xss.length, .ref 1 [] 0 (tcT xss r.1).2.length, int ((tcT xss r.1).2.flatten.length : Nat), .junk, .junk, .junk, .junk, .junk, .junk, .junk, .junk, .junk, .junk, .junk, .junk, .junk, .junk, .junk, .junk, .junk, .junk, .junk, .junk, .junk, .junk, .junk, .junk, .junk, .junk, .junk, .junk, .junk, .junk, .junk, .junk, .junk, .junk, .junk, .junk, .junk, .junk, .junk, .junk, .junk, .junk, .junk, .junk, .junk, .junk, .junk, .junk, .junk, .junk, .junk, .junk, .junk, .junk, .junk, .junk, .junk, .junk, .junk, .junk, .junk, .junk, .junk, .junk, .junk, .junk, .junk, .junk, .junk, .junk, .junk], [⟨true, .sl false 1 ((tcT xss r.1).1.map bool)⟩, ⟨(tcT xss r.1).2.isEmpty, .sl false 1 ((tcR (tcT xss r.1).2).map row)⟩]⟩) (fun r => xss.length - r.1) ⟨0, by omega⟩ (by simp [sub, slotsLe, clean, keep, refsL, refs, once, place, renL, ren, List.replicate, int, bool, intss, hz1, hz3, tcR]) ?_
  rintro ⟨r, hr⟩
  simp only
  have hs := tcT_ok h (r := r)
  by_cases h0 : (tcT xss r).1.count true = 0
  · have hcs := tcT_end h hr h0
    have hcn : ((tcT xss r).2.flatten.length : Int) = xss.length := by have := hs.cnt; omega
    have hlr : (tcR (tcA xss)).length = (tcA xss).length := by simp [tcR]
    have htk : List.take (tcA xss).length (tcR (tcA xss)) = tcR (tcA xss) := List.take_of_length_le (by omega)
    rw [hcs] at hcn ⊢
    simp (config := {contextual := true}) [List.range, List.range.loop, ints, intss, int, bool, row, frac, fracs, ← List.map_take, ← List.map_drop, List.all, hcn, hlr, htk, -List.length_flatten]
    done
  have hrn : r < xss.length := by
    rcases tcT_cnt h hr with h1 | h1
    · omega
    · exact absurd h1 h0
  have hnext : tcT xss (r + 1) = tcS xss (tcT xss r) := by
    have e : tcT xss (r + 1) = if (tcT xss r).1.count true = 0 then tcT xss r else tcS xss (tcT xss r) := rfl
    rw [e, if_neg h0]
  have hlt : ((tcT xss r).2.flatten.length : Int) < xss.length := by have := hs.cnt; omega
  have hsn := tcS_ok h hs
  generalize htt : tcT xss r = s at hs h0 hnext hlt hsn ⊢
  obtain ⟨bs, cs⟩ := s
  simp only at h0 hlt ⊢
  have hbl := hs.bl
  simp only at hbl
  have hex := some_left h0
  have hcsl : cs.length ≤ 5 ∧ cs.flatten.length ≤ 5 := by
    have := hs.one; have := hs.cnt
    simp only at *; omega
  have hflat : ∀ k, k ≤ xss.length → (cycs xss bs (lvT bs k)).flatten.length ≤ xss.length ∧ (cycs xss bs (lvT bs k)).length ≤ (cycs xss bs (lvT bs k)).flatten.length := fun k hk => by
    have hin := cycs_in h hbl (l := lvT bs k) (lvT_in (by omega))
    refine ⟨way_len (cycs_nodup (List.Nodup.sublist List.filter_sublist List.nodup_range)) fun x hx => ?_, flat_ge fun c hc => (hin c hc).1⟩
    obtain ⟨c, hc, hx⟩ := List.mem_flatten.1 hx
    obtain ⟨i, rfl, e⟩ := lvs_mem.1 ((hin c hc).2 x hx)
    have := lvN_lt (lvN_mem.2 e)
    omega
  generalize hcf : cs.flatten.length = cf at *
  simp (config := {contextual := true}) [List.range, List.range.loop, ints, intss, int, bool, row, frac, fracs, ← List.map_take, ← List.map_drop, List.all, hlt, hbl]
  refine awp_range (live := [true, false, true, true, true, true, true, true, true, true, false, true, false, true, false, false, true, false, false, true, true, true, false, false, false, false, false, false, false, false, true, false, true, true, true, true, false, false, false, false, true, false, false, false, false, false, false, true, false, false, false, false, false, true, true, true, true, false, false, true, true, true, true]) (ctxH_ok eqOk hG hM hV hK) mixed [true, false, false, true, true, true, true, false, false, false, false, false, false, false, false, false, false, false, false, false, false, false, false, false, false, false, false, false, false, false, false, false, true, true, true] (xss.length) (fun k => True) (fun k => ⟨[intss nl xss, .junk, .junk, .ref 0 [] 0 xss.length, .ref 1 [] 0 cs.length, int (cf : Int), .ref 2 [] 0 (cycs xss bs (lvT bs k)).length, .junk, .junk, .junk, .junk, .junk, .junk, .junk, .junk, .junk, .junk, .junk, .junk, .junk, .junk, .junk, .junk, .junk, .junk, .junk, .junk, .junk, .junk, .junk, .junk, .junk, .ref 0 [] 0 xss.length, int xss.length, int k, .junk, .junk, .junk, .junk, .junk, .junk, .junk, .junk, .junk, .junk, .junk, .junk, .junk, .junk, .junk, .junk, .junk, .junk, .junk, .junk, .junk, .junk, .junk, .junk, .junk, .junk, .junk, .junk, .junk, .junk, .junk, .junk, .junk, .junk, .junk, .junk, .junk, .junk, .junk, .junk, .junk, .junk], [⟨true, .sl false 1 (bs.map bool)⟩, ⟨cs.isEmpty, .sl false 1 ((tcR cs).map row)⟩, ⟨(cycs xss bs (lvT bs k)).isEmpty, .sl false 1 ((tcR (cycs xss bs (lvT bs k))).map row)⟩]⟩) ?_ (by simp [sub, slotsLe, clean, keep, refsL, refs, once, place, renL, ren, List.replicate, int, bool, intss, cycs, lvT, tcR]) ?_ ?_ ?_
  · omega
  · trivial
  · intro k hk _ hwk
    have hkb : k < bs.length := by omega
    have hgd : bs.getD k false = bs[k] := by simp [List.getD_eq_getElem?_getD, hkb]
    have hls := lvT_succ (bs := bs) (k := k)
    have htb : List.take xss.length bs = bs := List.take_of_length_le (by omega)
    cases hb : bs[k] with
    | false =>
      rw [hgd, hb] at hls
      simp only [Bool.false_eq_true, if_false, List.append_nil] at hls
      rw [hls]
      simp (config := {contextual := true}) [List.range, List.range.loop, ints, intss, int, bool, row, frac, fracs, ← List.map_take, ← List.map_drop, List.all, hbl, hk, hkb, hb, hwk]
      done
    | true =>
      rw [hgd, hb] at hls
      simp only [if_true] at hls
      have hl22 := mL22C_at nl xss bs (k : Int) ⟨h, hbl, hex, by omega, by omega⟩
      have hc1 : cyS (nx xss bs) (k : Int) (xss.length + 1) [] (k : Int) = cyc1 xss bs k := rfl
      rw [hc1] at hl22
      obtain ⟨f1, f2⟩ := hflat k (by omega)
      have hco := cycs_one (xss := xss) (bs := bs) (l := lvT bs k) (i := k)
      rw [← hls] at hco
      have hin := cycs_in h hbl (l := lvT bs (k + 1)) (lvT_in (by omega))
      rw [hco] at hin
      rw [hco]
      generalize cycs xss bs (lvT bs k) = Ck at *
      cases hcy : cyc1 xss bs k with
      | none =>
        rw [hcy] at hl22
        simp only [cyAV] at hl22
        simp (config := {contextual := true}) [List.range, List.range.loop, ints, intss, int, bool, row, frac, fracs, ← List.map_take, ← List.map_drop, List.all, hbl, hk, hkb, hb, hwk, htb, hl22]
        done
      | some q =>
        rw [hcy] at hl22 hin
        simp only [cyAV] at hl22
        have hqn : q ≠ [] := (hin q (by simp)).1
        have hq0 : 0 < q.length := List.length_pos_iff.2 hqn
        have hrl : (tcR Ck).length = Ck.length := by simp [tcR]
        have hbb : Ck.length + 1 ≤ 4611686018427387904 ∧ (Ck.length + 1) * 24 ≤ 140737488355328 := by omega
        have htk : List.take Ck.length (tcR Ck) = tcR Ck := List.take_of_length_le (by omega)
        have hrs : (tcR (Ck ++ [q])).map row = (tcR Ck).map row ++ [.sl false 1 (q.map int)] := by simp [tcR, row, ints]
        have hie : (Ck ++ [q]).isEmpty = false := by cases Ck <;> rfl
        simp only
        simp (config := {contextual := true}) [List.range, List.range.loop, ints, intss, int, bool, row, frac, fracs, ← List.map_take, ← List.map_drop, List.all, hbl, hk, hkb, hb, hwk, htb, hl22, hq0, hrl, hbb, htk, hrs, hie]
        done
  intro _
  rw [show lvT bs xss.length = lvN bs by rw [← hbl]; exact lvT_all]
  obtain ⟨f1, f2⟩ := hflat xss.length (Nat.le_refl _)
  rw [show lvT bs xss.length = lvN bs by rw [← hbl]; exact lvT_all] at f1 f2
  have hrng : ∀ c ∈ cycs xss bs (lvN bs), ∀ x ∈ c, ∃ i : Nat, x = (i : Int) ∧ i < xss.length := fun c hc x hx => by
    obtain ⟨i, rfl, e⟩ := lvs_mem.1 ((cycs_in h hbl (l := lvN bs) (fun _ h => h) c hc).2 x hx)
    exact ⟨i, rfl, by have := lvN_lt (lvN_mem.2 e); omega⟩
  have hn1' : (tcT xss (r + 1)).1 = knock bs (cycs xss bs (lvN bs)).flatten := by rw [hnext]; rfl
  have hn2' : (tcT xss (r + 1)).2 = cs ++ cycs xss bs (lvN bs) := by rw [hnext]; rfl
  generalize cycs xss bs (lvN bs) = Cs at *
  have hrl : (tcR Cs).length = Cs.length := by simp [tcR]
  have htk : List.take Cs.length (tcR Cs) = tcR Cs := List.take_of_length_le (by omega)
  have htk2 : List.take Cs.length ((tcR Cs).map row) = (tcR Cs).map row := List.take_of_length_le (by simp [tcR])
  simp (config := {contextual := true}) [List.range, List.range.loop, ints, intss, int, bool, row, frac, fracs, ← List.map_take, ← List.map_drop, List.all, hrl, hbl]
  refine awp_rangeZ [2] (live := [true, false, true, true, true, true, true, true, true, true, false, true, false, true, false, false, true, false, false, true, true, true, false, false, false, false, false, false, false, false, true, false, true, true, true, true, false, false, false, false, true, false, false, false, false, false, false, true, false, false, false, false, false, true, true, true, true, false, false, true, true, true, true]) (ctxH_ok eqOk hG hM hV hK) mixed [true, false, false, true, true, true, false, false, false, false, false, false, false, false, false, false, false, false, false, false, false, false, false, false, false, false, false, false, false, false, false, false, false, false, false, false, false, false, false, false, false, false, false, false, false, false, false, false, false, false, false, false, false, true, true, true] (Cs.length) (fun k => True) (fun k => ⟨[intss nl xss, .junk, .junk, .ref 0 [] 0 xss.length, .ref 1 [] 0 (cs ++ Cs.take k).length, int ((cf + (Cs.take k).flatten.length : Nat) : Int), .junk, .junk, .junk, .junk, .junk, .junk, .junk, .junk, .junk, .junk, .junk, .junk, .junk, .junk, .junk, .junk, .junk, .junk, .junk, .junk, .junk, .junk, .junk, .junk, .junk, .junk, .junk, .junk, .junk, .junk, .junk, .junk, .junk, .junk, .junk, .junk, .junk, .junk, .junk, .junk, .junk, .junk, .junk, .junk, .junk, .junk, .junk, .sl false 1 ((tcR Cs).map row), int Cs.length, int k, .junk, .junk, .junk, .junk, .junk, .junk, .junk, .junk, .junk, .junk, .junk, .junk, .junk, .junk, .junk, .junk, .junk, .junk, .junk, .junk, .junk], [⟨true, .sl false 1 ((knock bs (Cs.take k).flatten).map bool)⟩, ⟨(cs ++ Cs.take k).isEmpty, .sl false 1 ((tcR (cs ++ Cs.take k)).map row)⟩]⟩) ?_ (by simp [sub, slotsLe, clean, keep, refsL, refs, once, place, renL, ren, List.replicate, int, bool, intss, freeze, frzA, frzAL, res, getAt, sets, viewEs, hrl, htk, htk2, knock]) ?_ ?_ ?_
  · omega
  · trivial
  · intro k hk _ hwk
    have hkl : k < (tcR Cs).length := by omega
    have hgk : (tcR Cs)[k] = (false, Cs[k]) := by simp [tcR]
    have hfk := flat_take hk
    have htk1 : Cs.take (k + 1) = Cs.take k ++ [Cs[k]] := List.take_succ_eq_append_getElem hk
    have hcm : ∀ x ∈ Cs[k], ∃ i : Nat, x = (i : Int) ∧ i < xss.length := hrng _ (List.getElem_mem hk)
    have hfl1 : (Cs.take k).flatten.length + Cs[k].length ≤ xss.length := by
      have e : Cs.flatten = (Cs.take (k + 1)).flatten ++ (Cs.drop (k + 1)).flatten := by rw [← List.flatten_append, List.take_append_drop]
      have e2 : Cs.flatten.length = (Cs.take (k + 1)).flatten.length + (Cs.drop (k + 1)).flatten.length := by rw [e, List.length_append]
      have e3 : (Cs.take (k + 1)).flatten.length = (Cs.take k).flatten.length + Cs[k].length := by rw [hfk, List.length_append]
      omega
    have htkl : (Cs.take k).length = k := by simp; omega
    rw [hfk, htk1]
    generalize (Cs.take k).flatten = F at *
    generalize hD : Cs.take k = D at *
    generalize hc : Cs[k] = c at *
    have hDl : (tcR (cs ++ D)).length = cs.length + D.length := by simp [tcR]
    have hbb : cs.length + D.length + 1 ≤ 4611686018427387904 ∧ (cs.length + D.length + 1) * 24 ≤ 140737488355328 := by omega
    have htD : List.take (cs.length + D.length) (tcR (cs ++ D)) = tcR (cs ++ D) := List.take_of_length_le (by omega)
    have hrs : (tcR (cs ++ (D ++ [c]))).map row = (tcR (cs ++ D)).map row ++ [.sl false 1 (c.map int)] := by simp [tcR, row, ints]
    have hie : (cs ++ (D ++ [c])).isEmpty = false := by cases cs <;> cases D <;> rfl
    have hkn0 := knock_len (l := F) (bs := bs)
    simp (config := {contextual := true}) [List.range, List.range.loop, ints, intss, int, bool, row, frac, fracs, ← List.map_take, ← List.map_drop, List.all, hk, hkl, hgk]
    refine awp_range (live := [true, false, true, true, true, true, true, true, true, true, false, true, false, true, false, false, true, false, false, true, true, true, false, false, false, false, false, false, false, false, true, false, true, true, true, true, false, false, false, false, true, false, false, false, false, false, false, true, false, false, false, false, false, true, true, true, true, false, false, true, true, true, true]) (ctxH_ok eqOk hG hM hV hK) mixed [true, false, false, true, true, true, false, false, false, false, false, true, false, false, false, false, false, false, false, false, false, false, false, false, false, false, false, false, false, false, false, false, false, false, false, false, false, false, false, false, false, false, false, false, false, false, false, false, false, false, false, false, false, true, true, true, false, false, false, true, true, true] (c.length) (fun m => True) (fun m => ⟨[intss nl xss, .junk, .junk, .ref 0 [] 0 xss.length, .ref 1 [] 0 (cs ++ D).length, int ((cf + F.length + m : Nat) : Int), .junk, .junk, .junk, .junk, .junk, .sl false 1 (c.map int), .junk, .junk, .junk, .junk, .junk, .junk, .junk, .junk, .junk, .junk, .junk, .junk, .junk, .junk, .junk, .junk, .junk, .junk, .junk, .junk, .junk, .junk, .junk, .junk, .junk, .junk, .junk, .junk, .junk, .junk, .junk, .junk, .junk, .junk, .junk, .junk, .junk, .junk, .junk, .junk, .junk, .sl false 1 ((tcR Cs).map row), int Cs.length, int (k : Int), .junk, .junk, .junk, .sl false 1 (c.map int), int c.length, int m, .junk, .junk, .junk, .junk, .junk, .junk, .junk, .junk, .junk, .junk, .junk, .junk, .junk, .junk, .junk], [⟨true, .sl false 1 ((knock bs (F ++ c.take m)).map bool)⟩, ⟨(cs ++ D).isEmpty, .sl false 1 ((tcR (cs ++ D)).map row)⟩]⟩) ?_ (by simp [sub, slotsLe, clean, keep, refsL, refs, once, place, renL, ren, List.replicate, int, bool, intss, ints]) ?_ ?_ ?_
    · omega
    · trivial
    · intro m hm _ hwm
      obtain ⟨i, hci, hin⟩ := hcm c[m] (List.getElem_mem hm)
      have hkl1 := knock_len (l := F ++ c.take m) (bs := bs)
      have htm : c.take (m + 1) = c.take m ++ [(i : Int)] := by rw [List.take_succ_eq_append_getElem hm, hci]
      have hks : knock bs (F ++ c.take (m + 1)) = (knock bs (F ++ c.take m)).set i false := by
        rw [htm, ← List.append_assoc, knock_app]; simp [knock]
      have hset : ((knock bs (F ++ c.take m)).map bool).set i (.v (.bool false)) = (knock bs (F ++ c.take (m + 1))).map bool := by rw [hks, List.map_set]; rfl
      generalize knock bs (F ++ c.take m) = B at *
      generalize knock bs (F ++ c.take (m + 1)) = B' at *
      have hw : IntKind.i64.wrap (((cf + F.length + m : Nat) : Int) + 1) = ((cf + F.length + (m + 1) : Nat) : Int) := by rw [wrapI (by omega) (by omega)]; omega
      have hw' : IntKind.i64.wrap ((cf : Int) + (F.length : Int) + (m : Int) + 1) = (cf : Int) + (F.length : Int) + ((m : Int) + 1) := by rw [wrapI (by omega) (by omega)]; omega
      simp (config := {contextual := true}) [List.range, List.range.loop, ints, intss, int, bool, row, frac, fracs, ← List.map_take, ← List.map_drop, List.all, hm, hci, hin, hkl1, hbl, hset, hwm, hw, hw', -List.map_set]
      done
    · intro _
      rw [List.take_length]
      simp (config := {contextual := true}) [List.range, List.range.loop, ints, intss, int, bool, row, frac, fracs, ← List.map_take, ← List.map_drop, List.all, hDl, hbb, htD, hrs, hie, hwk]
      exact ⟨by omega, by omega⟩
  · intro _
    rw [List.take_length]
    have hcf' : (List.map List.length cs).sum = cf := by rw [← hcf, List.length_flatten]
    simp (config := {contextual := true}) [List.range, List.range.loop, ints, intss, int, bool, row, frac, fracs, ← List.map_take, ← List.map_drop, List.all]
    exact ⟨⟨r + 1, by omega⟩, by simp [sub, slotsLe, clean, keep, refsL, refs, once, place, renL, ren, List.replicate, int, bool, hn1', hn2', hcf', intss], by simp; omega⟩

end Go.Proofs.YtmeokgedldnohaaDoor.Ax
