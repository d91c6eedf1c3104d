/- Entries read from texts: what bytes stand in names, versions, faces, recipes; texts taken apart; what the readers give; contracts of the program's readers of faces, needs and entries. -/
import Derived.Test.YtmhfncdhplmomaaGreatDoorBEntText
import Derived.Test.YtmhfncdhplmomaaGreatDoorBVerParse
namespace Go.Proofs.YtmhfncdhplmomaaGreatDoor
open Go.RowKit Go
set_option linter.unusedVariables false
set_option linter.unusedSimpArgs false
set_option maxRecDepth 100000
set_option linter.unusedSectionVars false
variable [GC]
/-! Bytes in names, versions, faces, recipes; entries' texts taken apart -/
def isLow (b : UInt8) : Bool := decide (97 ≤ b.toNat) && decide (b.toNat ≤ 122)
theorem mem_byte {s : ByteArray} {b : UInt8} (h : b ∈ s.data.toList) : ∃ k, k < s.size ∧ byteZ s k = (b.toNat : Int) := by
  obtain ⟨k, hk, e⟩ := List.getElem_of_mem h
  rw [size_data] at hk
  refine ⟨k, hk, ?_⟩
  unfold byteZ
  have : s[k]? = some b := by
    rw [getElem?_pos s k hk]
    congr 1
  rw [this]; rfl
theorem nameB_chr {s : ByteArray} (h : nameB s = true) {b : UInt8} (hb : b ∈ s.data.toList) : (97 ≤ b.toNat ∧ b.toNat ≤ 122) ∨ (48 ≤ b.toNat ∧ b.toNat ≤ 57) := by
  obtain ⟨k, hk, e⟩ := mem_byte hb
  unfold nameB at h
  simp only [Bool.and_eq_true] at h
  have := allTo_iff.1 h.2 k hk
  unfold letB at this
  rw [e] at this
  simp only [Bool.and_eq_true, Bool.or_eq_true, decide_eq_true_eq] at this
  omega
theorem nameB_no {s : ByteArray} (h : nameB s = true) {c : UInt8} (hc : c.toNat < 48 ∨ 57 < c.toNat ∧ c.toNat < 97) : c ∉ s.data.toList := fun hb => by
  have := nameB_chr h hb
  omega
theorem verS_no (v : Ver) {c : UInt8} (hc : c.toNat < 46 ∨ 57 < c.toNat) : c ∉ (verS v).data.toList := by
  unfold verS
  split
  · rename_i h
    obtain ⟨a, b, ha, hb, rfl⟩ := Ver.nats h
    rw [bs_toList]
    unfold verL
    intro hm
    simp only [List.mem_append, List.mem_cons] at hm
    have dg : ∀ n, n < 1000 → c ∈ dig3 n → False := fun n hn hm => by
      have := List.all_eq_true.1 (dig3_dig hn) _ hm
      simp [isDig] at this
      omega
    rcases hm with hm | hm | hm
    · exact dg _ (by simp; omega) hm
    · subst hm; simp at hc
    · exact dg _ (by simp; omega) hm
  · rw [bs_toList]; simp
theorem faceT_all : ∀ n : Fin 64, (faceT n.val).data.toList.all (fun b => b == 43 || isLow b) = true := by decide +kernel
theorem faceS_no (f : Int) {c : UInt8} (h1 : c.toNat ≠ 43) (h2 : c.toNat < 97 ∨ 122 < c.toNat) : c ∉ (faceS f).data.toList := by
  unfold faceS
  split
  · rename_i h
    obtain ⟨n, rfl, hn⟩ := isFaceB_nat h
    intro hm
    have := List.all_eq_true.1 (faceT_all ⟨n, hn⟩) c hm
    simp [isLow] at this
    rcases this with e | e
    · subst e; simp at h1
    · omega
  · simp
theorem kindOk_low {s : ByteArray} (h : kindOk s = true) : s.data.toList.all isLow = true := by
  unfold kindOk kindAt at h
  repeat' split at h
  all_goals first
    | (rename_i e; rw [e]; decide)
    | simp at h
theorem layOk_low {s : ByteArray} (h : layOk s = true) : s.data.toList.all isLow = true := by
  unfold layOk layAt at h
  repeat' split at h
  all_goals first
    | (rename_i e; rw [e]; decide)
    | simp at h
theorem recOk_parts {l : List ByteArray} (h : recOk l = true) : l ≠ [] ∧ ∀ s ∈ l, s.data.toList.all isLow = true := by
  unfold recOk makeP at h
  split at h
  · simp [rep] at h
  rename_i h0
  have hk0 : kindOk (nth l 0) = true := by grind
  have hne : l ≠ [] := fun e => h0 (.inl (by rw [e]; rfl))
  split at h
  · rename_i k hk
    have h1 : ∀ {n : Nat} {p : Nat → Bool}, firstTo p n = some k → p k = true := by
      intro n
      induction n with
      | zero => intro p h; simp [firstTo] at h
      | succ n ih =>
        intro p h
        simp only [firstTo] at h
        split at h
        · rename_i j hj
          cases h; exact ih hj
        · split at h
          · cases h; assumption
          · cases h
    have := h1 hk
    grind
  rename_i hn
  have hw : ∀ k, k < l.length - 1 → (wrapR l k).code = 0 := fun k hk => by simpa using firstTo_nil hn k hk
  refine ⟨hne, fun s hs => ?_⟩
  obtain ⟨k, hk, rfl⟩ := List.getElem_of_mem hs
  have e : l[k] = nth l k := by simp [nth, hk]
  rw [e]
  cases k with
  | zero => exact kindOk_low hk0
  | succ k => exact layOk_low (wrapP_ok (hw k (by omega))).1
theorem rec_no {l : List ByteArray} (h : recOk l = true) {c : UInt8} (hc : c.toNat < 97 ∨ 122 < c.toNat) : ∀ x ∈ l.map (·.data.toList), c ∉ x := fun x hx hm => by
  obtain ⟨s, hs, rfl⟩ := List.mem_map.1 hx
  have := List.all_eq_true.1 ((recOk_parts h).2 s hs) c hm
  simp [isLow] at this
  omega
theorem join_no {c : UInt8} {sep : List UInt8} (hs : c ∉ sep) : ∀ {l : List (List UInt8)}, (∀ x ∈ l, c ∉ x) → c ∉ Lib.join l sep
  | [], _ => by simp [Lib.join_nil]
  | x :: r, h => by
    rw [Lib.join_cons]
    unfold Lib.joinTail
    intro hm
    rcases List.mem_append.1 hm with hm | hm
    · exact h x (by simp) hm
    · rw [List.mem_flatten] at hm
      obtain ⟨y, hy, hc⟩ := hm
      obtain ⟨z, hz, rfl⟩ := List.mem_map.1 hy
      rcases List.mem_append.1 hc with hc | hc
      · exact hs hc
      · exact h z (by simp [hz]) hc
theorem needT_no {n : Need} (h : needB n = true) {c : UInt8} (h1 : c.toNat = 44 ∨ c.toNat = 59 ∨ c.toNat = 58) : c ∉ (needT n).data.toList := by
  have hf : c ∉ (faceS n.face).data.toList := faceS_no _ (by omega) (by omega)
  have hv : c ∉ (verS n.least).data.toList := verS_no _ (by omega)
  have hs : c ∉ tSp.data.toList := by
    intro hm
    simp [tSp] at hm
    subst hm; simp at h1
  have ho : c ∉ tOf.data.toList := by
    intro hm
    simp [tOf] at hm
    rcases hm with rfl | rfl | rfl | rfl <;> simp at h1
  unfold needT
  split
  · simp only [ByteArray.data_append, Array.toList_append, List.mem_append, not_or]
    exact ⟨⟨hf, hs⟩, hv⟩
  · rename_i hne
    have hn : nameB n.frm = true := by
      unfold needB at h
      simp only [Bool.and_eq_true, Bool.or_eq_true, decide_eq_true_eq] at h
      rcases h.1.2 with h2 | h2
      · exact absurd h2 hne
      · exact h2
    have hk : c ∉ n.frm.data.toList := nameB_no hn (by omega)
    simp only [ByteArray.data_append, Array.toList_append, List.mem_append, not_or]
    exact ⟨⟨⟨⟨hf, ho⟩, hk⟩, hs⟩, hv⟩
/-- The pieces behind an entry's name. -/
def restP (e : Entry) : List (List UInt8) :=
  [(joinB e.recipe tSp).data.toList, (verS e.ver).data.toList] ++ if e.needs = [] then [] else [(joinB (e.needs.map needT) tCom).data.toList]
theorem entT_list {e : Entry} (h : entryB e = true) : (entT e).data.toList = e.name.data.toList ++ ([58, 32] ++ Lib.join (restP e) [59, 32]) := by
  unfold entT restP
  rw [if_pos h]
  split
  · simp [ByteArray.data_append, Lib.join_cons, Lib.joinTail, tCol, tSemi]
  · simp [ByteArray.data_append, Lib.join_cons, Lib.joinTail, tCol, tSemi]
theorem entryB_needB {e : Entry} (h : entryB e = true) : ∀ n ∈ e.needs, needB n = true := fun n hn => by
  obtain ⟨k, hk, rfl⟩ := List.getElem_of_mem hn
  unfold entryB at h
  simp only [Bool.and_eq_true] at h
  have := allTo_iff.1 h.2 k hk
  unfold needAt at this
  simp only [Bool.and_eq_true] at this
  have e1 : nth e.needs k = e.needs[k] := by simp [nth, hk]
  rw [e1] at this
  exact this.1
theorem restP_no {e : Entry} (h : entryB e = true) : ∀ x ∈ restP e, (59 : UInt8) ∉ x := by
  have h1 : (59 : UInt8) ∉ (joinB e.recipe tSp).data.toList := by
    show _ ∉ (bs _).data.toList
    rw [bs_toList]
    exact join_no (by decide) (rec_no (entryB_rec h) (by decide))
  have h2 : (59 : UInt8) ∉ (verS e.ver).data.toList := verS_no _ (by decide)
  have h3 : (59 : UInt8) ∉ (joinB (e.needs.map needT) tCom).data.toList := by
    show _ ∉ (bs _).data.toList
    rw [bs_toList]
    refine join_no (by decide) fun x hx => ?_
    obtain ⟨s, hs, rfl⟩ := List.mem_map.1 hx
    obtain ⟨n, hn, rfl⟩ := List.mem_map.1 hs
    exact needT_no (entryB_needB h n hn) (by decide)
  intro x hx
  unfold restP at hx
  split at hx
  · simp at hx
    rcases hx with rfl | rfl
    · exact h1
    · exact h2
  · simp at hx
    rcases hx with rfl | rfl | rfl
    · exact h1
    · exact h2
    · exact h3
/-- An entry's text, taken apart. -/
theorem ent_cut {e : Entry} (h : entryB e = true) : Lib.cut (entT e).data.toList [58, 32] = (e.name.data.toList, Lib.join (restP e) [59, 32], true) := by
  have hn : nameB e.name = true := by
    unfold entryB at h
    simp only [Bool.and_eq_true] at h
    grind
  rw [entT_list h]
  exact cut_app (c := 58) (t := [32]) (nameB_no hn (by decide))
theorem ent_split {e : Entry} (h : entryB e = true) : Lib.split (Lib.join (restP e) [59, 32]) [59, 32] = restP e :=
  split_join (c := 59) (t := [32]) (by unfold restP; simp) (restP_no h)
theorem rec_split {l : List ByteArray} (h : recOk l = true) : Lib.split (joinB l tSp).data.toList [32] = l.map (·.data.toList) := by
  have : (joinB l tSp).data.toList = Lib.join (l.map (·.data.toList)) [32] := bs_toList _
  rw [this]
  exact split_join (c := 32) (t := []) (by simpa using (recOk_parts h).1) (rec_no h (by decide))
theorem needs_split {e : Entry} (h : entryB e = true) (h0 : e.needs ≠ []) : Lib.split (joinB (e.needs.map needT) tCom).data.toList [44, 32] = (e.needs.map needT).map (·.data.toList) := by
  have : (joinB (e.needs.map needT) tCom).data.toList = Lib.join ((e.needs.map needT).map (·.data.toList)) [44, 32] := bs_toList _
  rw [this]
  refine split_join (c := 44) (t := [32]) (by simpa using h0) fun x hx => ?_
  obtain ⟨s, hs, rfl⟩ := List.mem_map.1 hx
  obtain ⟨n, hn, rfl⟩ := List.mem_map.1 hs
  exact needT_no (entryB_needB h n hn) (by decide)
/-! Needs' texts taken apart; what the readers give -/
def pfO (s : ByteArray) : Option Nat := firstTo (fun n => decide (faceT n = s)) 64
def pfI (s : ByteArray) : Int := match pfO s with | some n => n | none => 0
def pfB (s : ByteArray) : Bool := (pfO s).isSome
theorem faceT_inj : ∀ a b : Fin 64, faceT a.val = faceT b.val → a = b := by decide +kernel
theorem pf_face {f : Int} (h : isFaceB f = true) : pfI (faceS f) = f ∧ pfB (faceS f) = true := by
  obtain ⟨n, rfl, hn⟩ := isFaceB_nat h
  have e : faceS (n : Int) = faceT n := by rw [faceS, if_pos h, Int.toNat_natCast]
  have : pfO (faceT n) = some n := firstTo_some (p := fun k => decide (faceT k = faceT n)) (by simp) (fun i hi => by
    have hne : faceT i ≠ faceT n := fun e => by
      have := faceT_inj ⟨i, by omega⟩ ⟨n, hn⟩ e
      simp at this
      omega
    simpa using hne) hn
  rw [e]
  unfold pfI pfB
  rw [this]
  exact ⟨rfl, rfl⟩
/-- The pieces of a need's text. -/
def needP (n : Need) : List ByteArray := if n.frm = noText then [faceS n.face, verS n.least] else [faceS n.face, ⟨#[111, 102]⟩, n.frm, verS n.least]
def pieces (s sep : ByteArray) : List ByteArray := (Lib.split s.data.toList sep.data.toList).map bs
theorem map_bs (l : List ByteArray) : (l.map (·.data.toList)).map bs = l := by
  rw [List.map_map]
  conv => rhs; rw [← List.map_id l]
  exact List.map_congr_left fun x _ => bs_of x
theorem need_pieces {n : Need} (h : needB n = true) : pieces (needT n) tSp = needP n := by
  have hf : (32 : UInt8) ∉ (faceS n.face).data.toList := faceS_no _ (by decide) (by decide)
  have hv : (32 : UInt8) ∉ (verS n.least).data.toList := verS_no _ (by decide)
  have e : (needT n).data.toList = Lib.join ((needP n).map (·.data.toList)) [32] := by
    unfold needT needP
    split
    · simp [ByteArray.data_append, Lib.join_cons, Lib.joinTail, tSp]
    · simp [ByteArray.data_append, Lib.join_cons, Lib.joinTail, tSp, tOf]
  unfold pieces
  rw [e, show tSp.data.toList = [32] from rfl, split_join (c := 32) (t := []) (by unfold needP; split <;> simp) ?_, map_bs]
  intro x hx
  unfold needP at hx
  split at hx
  · simp at hx
    rcases hx with rfl | rfl
    · exact hf
    · exact hv
  · rename_i hne
    have hn : nameB n.frm = true := by
      unfold needB at h
      simp only [Bool.and_eq_true, Bool.or_eq_true, decide_eq_true_eq] at h
      rcases h.1.2 with h2 | h2
      · exact absurd h2 hne
      · exact h2
    simp at hx
    rcases hx with rfl | rfl | rfl | rfl
    · exact hf
    · decide
    · exact nameB_no hn (by decide)
    · exact hv
def noNeed : Need := ⟨0, noText, ⟨0, 0⟩⟩
/-- What the program's reader of needs gives. -/
def pnV (s : ByteArray) : Need × Bool :=
  if (pieces s tSp).length = 4 ∧ nth (pieces s tSp) 1 = ⟨#[111, 102]⟩ then (⟨pfI (nth (pieces s tSp) 0), nth (pieces s tSp) 2, pvV (nth (pieces s tSp) ((pieces s tSp).length - 1))⟩, pfB (nth (pieces s tSp) 0) && pvB (nth (pieces s tSp) ((pieces s tSp).length - 1)))
  else if (pieces s tSp).length ≠ 2 then (noNeed, false)
  else (⟨pfI (nth (pieces s tSp) 0), noText, pvV (nth (pieces s tSp) ((pieces s tSp).length - 1))⟩, pfB (nth (pieces s tSp) 0) && pvB (nth (pieces s tSp) ((pieces s tSp).length - 1)))
theorem pn_need {n : Need} (h : needB n = true) : pnV (needT n) = (n, true) := by
  have hp := need_pieces h
  have hv : n.least.ok = true := by
    unfold needB at h
    simp only [Bool.and_eq_true] at h
    exact h.2
  have hf : isFaceB n.face = true := by
    unfold needB at h
    simp only [Bool.and_eq_true] at h
    exact h.1.1.1
  obtain ⟨f1, f2⟩ := pf_face hf
  obtain ⟨v1, v2⟩ := pv_of hv
  unfold pnV
  rw [hp]
  unfold needP
  split
  · rename_i h0
    rw [if_neg (by simp), if_neg (by simp)]
    simp only [nth, List.length_cons, List.length_nil, List.getD_cons_zero, List.getD_cons_succ]
    simp [f1, f2, v1, v2]
    cases n
    simp_all
  · rename_i h0
    rw [if_pos ⟨rfl, rfl⟩]
    simp only [nth, List.length_cons, List.length_nil, List.getD_cons_zero, List.getD_cons_succ]
    simp [f1, f2, v1, v2]
/-! Entries -/
def peN (s : ByteArray) : ByteArray := bs (Lib.cut s.data.toList [58, 32]).1
def peQ (s : ByteArray) : List ByteArray := pieces (bs (Lib.cut s.data.toList [58, 32]).2.1) tSemi
def peW (s : ByteArray) : List ByteArray := if (peQ s).length = 3 then pieces (nth (peQ s) 2) tCom else []
/-- The entry that a text may be. -/
def peE (s : ByteArray) : Entry := ⟨peN s, pieces (nth (peQ s) 0) tSp, pvV (nth (peQ s) 1), (peW s).map fun x => (pnV x).1⟩
def peB (s : ByteArray) : Bool :=
  (Lib.cut s.data.toList [58, 32]).2.2 && decide (2 ≤ (peQ s).length) && decide ((peQ s).length ≤ 3) && pvB (nth (peQ s) 1) && (peW s).all (fun x => (pnV x).2) && entryB (peE s) && decide (entT (peE s) = s)
theorem pe_of {e : Entry} (h : entryB e = true) : peE (entT e) = e ∧ peB (entT e) = true := by
  have hc := ent_cut h
  have hv : e.ver.ok = true := by
    unfold entryB at h
    simp only [Bool.and_eq_true] at h
    grind
  obtain ⟨v1, v2⟩ := pv_of hv
  have hN : peN (entT e) = e.name := by unfold peN; rw [hc, bs_of]
  have hQ : peQ (entT e) = (restP e).map bs := by
    unfold peQ pieces
    rw [hc, bs_toList]
    show (Lib.split _ [59, 32]).map bs = _
    rw [ent_split h]
  have h0 : nth (peQ (entT e)) 0 = joinB e.recipe tSp := by
    rw [hQ]; unfold restP nth
    simp [bs_of]
  have h1 : nth (peQ (entT e)) 1 = verS e.ver := by
    rw [hQ]; unfold restP nth
    simp [bs_of]
  have hR : pieces (joinB e.recipe tSp) tSp = e.recipe := by
    unfold pieces
    show (Lib.split _ [32]).map bs = _
    rw [rec_split (entryB_rec h), map_bs]
  have hW : peW (entT e) = e.needs.map needT := by
    unfold peW
    by_cases hn : e.needs = []
    · rw [if_neg (by rw [hQ]; unfold restP; simp [hn])]
      simp [hn]
    · have h2 : nth (peQ (entT e)) 2 = joinB (e.needs.map needT) tCom := by
        rw [hQ]; unfold restP nth
        simp [bs_of, hn]
      rw [if_pos (by rw [hQ]; unfold restP; simp [hn]), h2]
      unfold pieces
      show (Lib.split _ [44, 32]).map bs = _
      rw [needs_split h hn, map_bs]
  have hm : (peW (entT e)).map (fun x => (pnV x).1) = e.needs := by
    rw [hW, List.map_map]
    conv => rhs; rw [← List.map_id e.needs]
    exact List.map_congr_left fun n hn => by simp [pn_need (entryB_needB h n hn)]
  have hE : peE (entT e) = e := by
    unfold peE
    rw [hN, h0, h1, hR, v2, hm]
  refine ⟨hE, ?_⟩
  have hl : (peQ (entT e)).length = 2 ∨ (peQ (entT e)).length = 3 := by
    rw [hQ]; unfold restP
    split <;> simp
  unfold peB
  rw [hE, h1, v1, h, hc]
  have ha : (peW (entT e)).all (fun x => (pnV x).2) = true := by
    rw [hW, List.all_map, List.all_eq_true]
    intro n hn
    simp [pn_need (entryB_needB h n hn)]
  rw [ha]
  simp
  omega
theorem pe_back {s : ByteArray} (h : peB s = true) : entryB (peE s) = true ∧ entT (peE s) = s := by
  unfold peB at h
  simp only [Bool.and_eq_true, decide_eq_true_eq] at h
  exact ⟨h.1.2, h.2⟩
/-! Contracts: readers of faces and needs -/
theorem mem_lens {x : List UInt8} : ∀ {l : List (List UInt8)}, x ∈ l → x.length ≤ Lib.lens l
  | y :: r, h => by
    have e : Lib.lens (y :: r) = y.length + Lib.lens r := by simp [Lib.lens]
    rw [e]
    rcases List.mem_cons.1 h with rfl | h
    · omega
    · have := mem_lens h
      omega
theorem split_size {s sep : List UInt8} (h : sep ≠ []) : (Lib.split s sep).length ≤ s.length + 1 ∧ ∀ x ∈ Lib.split s sep, x.length ≤ s.length := by
  obtain ⟨h1, h2⟩ := join_split h s.length s (Nat.le_refl _)
  have hpos : 0 < sep.length := List.length_pos_iff.2 h
  cases hl : Lib.split s sep with
  | nil => exact absurd hl h2
  | cons y r =>
    rw [hl, Lib.join_cons] at h1
    have e := congrArg List.length h1
    rw [List.length_append, Lib.joinTail_length] at e
    have : r.length ≤ sep.length * r.length := Nat.le_mul_of_pos_left _ hpos
    refine ⟨by simp; omega, fun x hx => ?_⟩
    rcases List.mem_cons.1 hx with rfl | hx
    · omega
    · have := mem_lens hx
      omega
theorem pieces_size {s sep : ByteArray} (h : 1 ≤ sep.size) : (pieces s sep).length ≤ s.size + 1 ∧ ∀ x ∈ pieces s sep, x.size ≤ s.size := by
  have hne : sep.data.toList ≠ [] := fun e => by
    have : sep.size = 0 := by rw [← size_data, e]; rfl
    omega
  obtain ⟨h1, h2⟩ := split_size (s := s.data.toList) hne
  rw [size_data] at h1
  refine ⟨by unfold pieces; rw [List.length_map]; exact h1, fun x hx => ?_⟩
  obtain ⟨y, hy, rfl⟩ := List.mem_map.1 hx
  have := h2 y hy
  rw [size_data] at this
  rw [bs_size]; exact this
theorem piece_size {s sep : ByteArray} (h : 1 ≤ sep.size) {k : Nat} (hk : k < (pieces s sep).length) : (nth (pieces s sep) k).size ≤ s.size := (pieces_size h).2 _ (nth_mem hk)
theorem pieces_eq (s sep : ByteArray) : Lib.splitB sep 0 (Lib.countB s sep) s = pieces s sep := by
  unfold pieces
  rw [← map_bs (Lib.splitB sep 0 (Lib.countB s sep) s), Lib.splitB_data]
  rfl
theorem c_Split [HasMax] (s sep : ByteArray) (hs : s.size < 4294967281) (h1 : 1 ≤ sep.size) : Fun Tryz.prog 47 none [.str s, .str sep] (encS (pieces s sep)) [] := by
  refine Fun.of_callsG (by kernel_rfl) fun w M vs hG hr => ?_
  obtain ⟨v, q, rfl, ⟨rfl, _⟩, v2, q2, rfl, ⟨rfl, _⟩, rfl⟩ := hr
  obtain ⟨cs, ⟨m, hcs⟩, hc⟩ := (HasMax.h w hG.2.1).cell
  have hm := hc 0
  rw [hcs] at hm
  obtain ⟨z1, z2⟩ := pieces_size (s := s) h1
  have hlen : Lib.countB s sep + 1 = (pieces s sep).length := by rw [← pieces_eq, Lib.splitB_all sep h1 0 _ s rfl]
  refine (Tryz.strings_Split s sep m w hs hm h1).mono ?_
  rintro e w' ⟨rfl, rfl⟩
  rw [pieces_eq, hlen]
  refine ⟨_, rfl, R_strs (pieces s sep) (heap_new (by simp)) rfl rfl (fun o h => ?_) (fun x hx => ?_) ?_, (Below.refl _ _).alloc (Nat.le_refl _) _⟩
  · have := hG.1 _ h
    simp at this
  · have := z2 x hx
    unfold maxLen; omega
  · unfold maxLen; omega
theorem c_impl_ParseFace [HasAbil] (s : ByteArray) : Fun Tryz.prog 90 none [.str s] (.tup [.int .i64 (pfI s), .bool (pfB s)]) [] := by
  refine Fun.ofV vc_impl_ParseFace_ok ty_impl_ParseFace_ok rfl ?_ (fun hfit => ?_)
  · exact ⟨trivial, trivial⟩
  unfold vc_impl_ParseFace
  refine den_for 64 (fun k => [.int .i64 k]) (fun k => ∀ i, i < k → decide (faceT i = s) = false) rfl (by omega) ?_
  intro k hk hI _
  simp only [List.cons_append, List.nil_append]
  refine den_ite (fun h2 => ?_) (fun h2 => ?_)
  · simp only [E.den, List.map_cons, List.map_nil, Option.map_none, Option.map_some, List.getD_cons_zero, List.getD_cons_succ, List.cons_append, List.nil_append, List.append_nil, D.toI_int, D.toB_bool, D.toS_str, D.toA_agg, D.toT_tup, D.toR_sl, enc_toA, encS_toR, encS_len, List.drop_succ_cons, List.drop_zero, List.take_succ_cons, List.take_zero, len_str, at_byte, cmpI_lss, cmpI_leq, cmpI_gtr, cmpI_geq, cmpI_eql, cmpI_neq, cmpS_eql, cmpS_neq, cmpS_lss, cmpS_geq, Int.toNat_natCast, Int.toNat_zero] at h2
    have h2 : k < 64 := by simp at h2; omega
    ((first | refine den_call ?_ (c_impl_FormatFace k) (trivial) ?_ | refine den_callR ?_ (c_impl_FormatFace k) (trivial) ?_ | refine den_call ?_ (.ofR (c_impl_FormatFace k)) (trivial) ?_); (focus (simp only [VC.den, E.den, List.map_cons, List.map_nil, Option.map_none, Option.map_some, List.getD_cons_zero, List.getD_cons_succ, List.cons_append, List.nil_append, List.append_nil, D.toI_int, D.toB_bool, D.toS_str, D.toA_agg, D.toT_tup, D.toR_sl, enc_toA, encS_toR, encS_len, List.drop_succ_cons, List.drop_zero, List.take_succ_cons, List.take_zero, gsH_nil, and_true]; try exact rfl)); (simp only [List.cons_append, List.nil_append]))
    have e : faceS (k : Int) = faceT k := by rw [faceS, if_pos (by simp [isFaceB]; omega), Int.toNat_natCast]
    refine den_ite (fun h3 => ?_) (fun h3 => ?_)
    · simp only [E.den, List.map_cons, List.map_nil, Option.map_none, Option.map_some, List.getD_cons_zero, List.getD_cons_succ, List.cons_append, List.nil_append, List.append_nil, D.toI_int, D.toB_bool, D.toS_str, D.toA_agg, D.toT_tup, D.toR_sl, enc_toA, encS_toR, encS_len, List.drop_succ_cons, List.drop_zero, List.take_succ_cons, List.take_zero, len_str, at_byte, cmpI_lss, cmpI_leq, cmpI_gtr, cmpI_geq, cmpI_eql, cmpI_neq, cmpS_eql, cmpS_neq, cmpS_lss, cmpS_geq, Int.toNat_natCast, Int.toNat_zero, e] at h3
      refine den_ret ?_
      have : pfO s = some k := by unfold pfO; exact firstTo_some (p := fun n => decide (faceT n = s)) (n := 64) h3 hI h2
      have e1 : pfI s = k := by unfold pfI; rw [this]
      have e2 : pfB s = true := by unfold pfB; rw [this]; rfl
      rw [e1, e2]; rfl
    · simp only [E.den, List.map_cons, List.map_nil, Option.map_none, Option.map_some, List.getD_cons_zero, List.getD_cons_succ, List.cons_append, List.nil_append, List.append_nil, D.toI_int, D.toB_bool, D.toS_str, D.toA_agg, D.toT_tup, D.toR_sl, enc_toA, encS_toR, encS_len, List.drop_succ_cons, List.drop_zero, List.take_succ_cons, List.take_zero, len_str, at_byte, cmpI_lss, cmpI_leq, cmpI_gtr, cmpI_geq, cmpI_eql, cmpI_neq, cmpS_eql, cmpS_neq, cmpS_lss, cmpS_geq, Int.toNat_natCast, Int.toNat_zero, e] at h3
      refine den_next h2 ?_ fun i hi => ?_
      · simp only [E.den, List.map_cons, List.map_nil, Option.map_none, Option.map_some, List.getD_cons_zero, List.getD_cons_succ, List.cons_append, List.nil_append, List.append_nil, D.toI_int, D.toB_bool, D.toS_str, D.toA_agg, D.toT_tup, D.toR_sl, enc_toA, encS_toR, encS_len, List.drop_succ_cons, List.drop_zero, List.take_succ_cons, List.take_zero, len_str, at_byte, cmpI_lss, cmpI_leq, cmpI_gtr, cmpI_geq, cmpI_eql, cmpI_neq, cmpS_eql, cmpS_neq, cmpS_lss, cmpS_geq, Int.toNat_natCast, Int.toNat_zero]
        rw [ar_add (by omega) (by omega)]; rfl
      · rcases Nat.lt_or_ge i k with h | h
        · exact hI i h
        · obtain rfl : i = k := by omega
          exact h3
  · simp only [E.den, List.map_cons, List.map_nil, Option.map_none, Option.map_some, List.getD_cons_zero, List.getD_cons_succ, List.cons_append, List.nil_append, List.append_nil, D.toI_int, D.toB_bool, D.toS_str, D.toA_agg, D.toT_tup, D.toR_sl, enc_toA, encS_toR, encS_len, List.drop_succ_cons, List.drop_zero, List.take_succ_cons, List.take_zero, len_str, at_byte, cmpI_lss, cmpI_leq, cmpI_gtr, cmpI_geq, cmpI_eql, cmpI_neq, cmpS_eql, cmpS_neq, cmpS_lss, cmpS_geq, Int.toNat_natCast, Int.toNat_zero] at h2
    obtain rfl : k = 64 := by simp at h2; omega
    have : pfO s = none := by unfold pfO; exact firstTo_none hI
    have e1 : pfI s = 0 := by unfold pfI; rw [this]
    have e2 : pfB s = false := by unfold pfB; rw [this]; rfl
    refine den_ret ?_
    rw [e1, e2]; rfl
theorem ofB_eq : (⟨#[111, 102]⟩ : ByteArray) = ⟨#[111, 102]⟩ := rfl
theorem c_impl_parseNeed [HasAbil] [HasMax] [HasPow] [HasErr] (s : ByteArray) (hs : s.size < 4294967281) : Fun Tryz.prog 49 none [.str s] (.tup [enc (pnV s).1, .bool (pnV s).2]) [] := by
  refine Fun.ofV vc_impl_parseNeed_ok ty_impl_parseNeed_ok rfl ?_ (fun hfit => ?_)
  · exact ⟨trivial, trivial⟩
  unfold vc_impl_parseNeed
  ((first | refine den_call ?_ (c_Split s tSp hs (by decide)) (ty_strS _) ?_ | refine den_callR ?_ (c_Split s tSp hs (by decide)) (ty_strS _) ?_ | refine den_call ?_ (.ofR (c_Split s tSp hs (by decide))) (ty_strS _) ?_); (focus (simp only [VC.den, E.den, List.map_cons, List.map_nil, Option.map_none, Option.map_some, List.getD_cons_zero, List.getD_cons_succ, List.cons_append, List.nil_append, List.append_nil, D.toI_int, D.toB_bool, D.toS_str, D.toA_agg, D.toT_tup, D.toR_sl, enc_toA, encS_toR, encS_len, List.drop_succ_cons, List.drop_zero, List.take_succ_cons, List.take_zero, gsH_nil, and_true, tSp_eq]; try exact rfl)); (simp only [List.cons_append, List.nil_append]))
  have hz := (pieces_size (s := s) (sep := tSp) (by decide)).1
  have hp : ∀ k, k < (pieces s tSp).length → (nth (pieces s tSp) k).size < 4294967281 := fun k hk => by
    have := piece_size (s := s) (sep := tSp) (by decide) hk
    omega
  unfold pnV
  generalize pieces s tSp = p at hz hp ⊢
  have ha : arI .sub .i64 (p.length : Int) 1 = (p.length : Int) - 1 := by rw [ar_sub (by omega) (by omega)]
  (refine den_cond (fun hg => ?_) ?_; (focus (simp only [gsH, List.mem_cons, List.not_mem_nil, or_false, forall_eq_or_imp, forall_eq, E.den, List.map_cons, List.map_nil, Option.map_none, Option.map_some, List.getD_cons_zero, List.getD_cons_succ, List.cons_append, List.nil_append, List.append_nil, D.toI_int, D.toB_bool, D.toS_str, D.toA_agg, D.toT_tup, D.toR_sl, enc_toA, encS_toR, encS_len, List.drop_succ_cons, List.drop_zero, List.take_succ_cons, List.take_zero, len_str, at_byte, cmpI_lss, cmpI_leq, cmpI_gtr, cmpI_geq, cmpI_eql, cmpI_neq, cmpS_eql, cmpS_neq, cmpS_lss, cmpS_geq, Int.toNat_natCast, Int.toNat_zero] at hg ⊢; (try simp only [D.bool.injEq] at hg); (try simp only [D.bool.injEq]); grind)))
  refine den_ite (fun h2 => ?_) (fun h2 => ?_)
  · simp only [E.den, List.map_cons, List.map_nil, Option.map_none, Option.map_some, List.getD_cons_zero, List.getD_cons_succ, List.cons_append, List.nil_append, List.append_nil, D.toI_int, D.toB_bool, D.toS_str, D.toA_agg, D.toT_tup, D.toR_sl, enc_toA, encS_toR, encS_len, List.drop_succ_cons, List.drop_zero, List.take_succ_cons, List.take_zero, len_str, at_byte, cmpI_lss, cmpI_leq, cmpI_gtr, cmpI_geq, cmpI_eql, cmpI_neq, cmpS_eql, cmpS_neq, cmpS_lss, cmpS_geq, Int.toNat_natCast, Int.toNat_zero, row_str, cells_str] at h2
    simp only [Bool.and_eq_true, decide_eq_true_eq, beq_iff_eq] at h2
    have h4 : p.length = 4 := by omega
    have ht : (1 : Int).toNat = 1 := rfl
    rw [if_pos ⟨h4, h2.2⟩]
    refine den_cond (fun _ => ?_) ?_
    · simp only [E.den, List.map_cons, List.map_nil, Option.map_none, Option.map_some, List.getD_cons_zero, List.getD_cons_succ, List.cons_append, List.nil_append, List.append_nil, D.toI_int, D.toB_bool, D.toS_str, D.toA_agg, D.toT_tup, D.toR_sl, enc_toA, encS_toR, encS_len, List.drop_succ_cons, List.drop_zero, List.take_succ_cons, List.take_zero, len_str, at_byte, cmpI_lss, cmpI_leq, cmpI_gtr, cmpI_geq, cmpI_eql, cmpI_neq, cmpS_eql, cmpS_neq, cmpS_lss, cmpS_geq, Int.toNat_natCast, Int.toNat_zero]; simp; omega
    refine den_cond (fun _ => ?_) ?_
    · simp only [E.den, List.map_cons, List.map_nil, Option.map_none, Option.map_some, List.getD_cons_zero, List.getD_cons_succ, List.cons_append, List.nil_append, List.append_nil, D.toI_int, D.toB_bool, D.toS_str, D.toA_agg, D.toT_tup, D.toR_sl, enc_toA, encS_toR, encS_len, List.drop_succ_cons, List.drop_zero, List.take_succ_cons, List.take_zero, len_str, at_byte, cmpI_lss, cmpI_leq, cmpI_gtr, cmpI_geq, cmpI_eql, cmpI_neq, cmpS_eql, cmpS_neq, cmpS_lss, cmpS_geq, Int.toNat_natCast, Int.toNat_zero]; simp; omega
    ((first | refine den_call ?_ (c_impl_ParseFace (nth p 0)) (⟨rfl, trivial, trivial⟩) ?_ | refine den_callR ?_ (c_impl_ParseFace (nth p 0)) (⟨rfl, trivial, trivial⟩) ?_ | refine den_call ?_ (.ofR (c_impl_ParseFace (nth p 0))) (⟨rfl, trivial, trivial⟩) ?_); (focus (simp only [VC.den, E.den, List.map_cons, List.map_nil, Option.map_none, Option.map_some, List.getD_cons_zero, List.getD_cons_succ, List.cons_append, List.nil_append, List.append_nil, D.toI_int, D.toB_bool, D.toS_str, D.toA_agg, D.toT_tup, D.toR_sl, enc_toA, encS_toR, encS_len, List.drop_succ_cons, List.drop_zero, List.take_succ_cons, List.take_zero, gsH_nil, and_true, row_str, cells_str, Int.toNat_zero]; try exact rfl)); (simp only [List.cons_append, List.nil_append]))
    refine den_cond (fun _ => ?_) ?_
    · simp only [E.den, List.map_cons, List.map_nil, Option.map_none, Option.map_some, List.getD_cons_zero, List.getD_cons_succ, List.cons_append, List.nil_append, List.append_nil, D.toI_int, D.toB_bool, D.toS_str, D.toA_agg, D.toT_tup, D.toR_sl, enc_toA, encS_toR, encS_len, List.drop_succ_cons, List.drop_zero, List.take_succ_cons, List.take_zero, len_str, at_byte, cmpI_lss, cmpI_leq, cmpI_gtr, cmpI_geq, cmpI_eql, cmpI_neq, cmpS_eql, cmpS_neq, cmpS_lss, cmpS_geq, Int.toNat_natCast, Int.toNat_zero, ha]; simp; omega
    have hi : ((p.length : Int) - 1).toNat = p.length - 1 := by omega
    ((first | refine den_call ?_ (c_impl_ParseVersion (nth p (p.length - 1)) (hp _ (by omega))) (ty_pvD _) ?_ | refine den_callR ?_ (c_impl_ParseVersion (nth p (p.length - 1)) (hp _ (by omega))) (ty_pvD _) ?_ | refine den_call ?_ (.ofR (c_impl_ParseVersion (nth p (p.length - 1)) (hp _ (by omega)))) (ty_pvD _) ?_); (focus (simp only [VC.den, E.den, List.map_cons, List.map_nil, Option.map_none, Option.map_some, List.getD_cons_zero, List.getD_cons_succ, List.cons_append, List.nil_append, List.append_nil, D.toI_int, D.toB_bool, D.toS_str, D.toA_agg, D.toT_tup, D.toR_sl, enc_toA, encS_toR, encS_len, List.drop_succ_cons, List.drop_zero, List.take_succ_cons, List.take_zero, gsH_nil, and_true, ha, hi, row_str, cells_str]; try exact rfl)); (simp only [List.cons_append, List.nil_append]))
    refine den_ret ?_
    simp only [E.den, List.map_cons, List.map_nil, Option.map_none, Option.map_some, List.getD_cons_zero, List.getD_cons_succ, List.cons_append, List.nil_append, List.append_nil, D.toI_int, D.toB_bool, D.toS_str, D.toA_agg, D.toT_tup, D.toR_sl, enc_toA, encS_toR, encS_len, List.drop_succ_cons, List.drop_zero, List.take_succ_cons, List.take_zero, len_str, at_byte, cmpI_lss, cmpI_leq, cmpI_gtr, cmpI_geq, cmpI_eql, cmpI_neq, cmpS_eql, cmpS_neq, cmpS_lss, cmpS_geq, Int.toNat_natCast, Int.toNat_zero, pvD, row_str, cells_str, cells_Ver, cells_Need]
    rfl
  · simp only [E.den, List.map_cons, List.map_nil, Option.map_none, Option.map_some, List.getD_cons_zero, List.getD_cons_succ, List.cons_append, List.nil_append, List.append_nil, D.toI_int, D.toB_bool, D.toS_str, D.toA_agg, D.toT_tup, D.toR_sl, enc_toA, encS_toR, encS_len, List.drop_succ_cons, List.drop_zero, List.take_succ_cons, List.take_zero, len_str, at_byte, cmpI_lss, cmpI_leq, cmpI_gtr, cmpI_geq, cmpI_eql, cmpI_neq, cmpS_eql, cmpS_neq, cmpS_lss, cmpS_geq, Int.toNat_natCast, Int.toNat_zero, row_str, cells_str] at h2
    have h2' : ¬ (p.length = 4 ∧ nth p 1 = ⟨#[111, 102]⟩) := by
      rintro ⟨q1, q2⟩
      have e1 : nth p (Int.toNat 1) = ⟨#[111, 102]⟩ := q2
      rw [e1, q1] at h2
      simp at h2
    rw [if_neg h2']
    refine den_ite (fun h3 => ?_) (fun h3 => ?_)
    · simp only [E.den, List.map_cons, List.map_nil, Option.map_none, Option.map_some, List.getD_cons_zero, List.getD_cons_succ, List.cons_append, List.nil_append, List.append_nil, D.toI_int, D.toB_bool, D.toS_str, D.toA_agg, D.toT_tup, D.toR_sl, enc_toA, encS_toR, encS_len, List.drop_succ_cons, List.drop_zero, List.take_succ_cons, List.take_zero, len_str, at_byte, cmpI_lss, cmpI_leq, cmpI_gtr, cmpI_geq, cmpI_eql, cmpI_neq, cmpS_eql, cmpS_neq, cmpS_lss, cmpS_geq, Int.toNat_natCast, Int.toNat_zero] at h3
      have h3 : p.length ≠ 2 := by
        simp at h3
        omega
      rw [if_pos h3]
      exact den_ret rfl
    · simp only [E.den, List.map_cons, List.map_nil, Option.map_none, Option.map_some, List.getD_cons_zero, List.getD_cons_succ, List.cons_append, List.nil_append, List.append_nil, D.toI_int, D.toB_bool, D.toS_str, D.toA_agg, D.toT_tup, D.toR_sl, enc_toA, encS_toR, encS_len, List.drop_succ_cons, List.drop_zero, List.take_succ_cons, List.take_zero, len_str, at_byte, cmpI_lss, cmpI_leq, cmpI_gtr, cmpI_geq, cmpI_eql, cmpI_neq, cmpS_eql, cmpS_neq, cmpS_lss, cmpS_geq, Int.toNat_natCast, Int.toNat_zero] at h3
      have h3 : p.length = 2 := by
        simp at h3
        omega
      rw [if_neg (by omega)]
      refine den_cond (fun _ => ?_) ?_
      · simp only [E.den, List.map_cons, List.map_nil, Option.map_none, Option.map_some, List.getD_cons_zero, List.getD_cons_succ, List.cons_append, List.nil_append, List.append_nil, D.toI_int, D.toB_bool, D.toS_str, D.toA_agg, D.toT_tup, D.toR_sl, enc_toA, encS_toR, encS_len, List.drop_succ_cons, List.drop_zero, List.take_succ_cons, List.take_zero, len_str, at_byte, cmpI_lss, cmpI_leq, cmpI_gtr, cmpI_geq, cmpI_eql, cmpI_neq, cmpS_eql, cmpS_neq, cmpS_lss, cmpS_geq, Int.toNat_natCast, Int.toNat_zero]; simp; omega
      ((first | refine den_call ?_ (c_impl_ParseFace (nth p 0)) (⟨rfl, trivial, trivial⟩) ?_ | refine den_callR ?_ (c_impl_ParseFace (nth p 0)) (⟨rfl, trivial, trivial⟩) ?_ | refine den_call ?_ (.ofR (c_impl_ParseFace (nth p 0))) (⟨rfl, trivial, trivial⟩) ?_); (focus (simp only [VC.den, E.den, List.map_cons, List.map_nil, Option.map_none, Option.map_some, List.getD_cons_zero, List.getD_cons_succ, List.cons_append, List.nil_append, List.append_nil, D.toI_int, D.toB_bool, D.toS_str, D.toA_agg, D.toT_tup, D.toR_sl, enc_toA, encS_toR, encS_len, List.drop_succ_cons, List.drop_zero, List.take_succ_cons, List.take_zero, gsH_nil, and_true, row_str, cells_str, Int.toNat_zero]; try exact rfl)); (simp only [List.cons_append, List.nil_append]))
      refine den_cond (fun _ => ?_) ?_
      · simp only [E.den, List.map_cons, List.map_nil, Option.map_none, Option.map_some, List.getD_cons_zero, List.getD_cons_succ, List.cons_append, List.nil_append, List.append_nil, D.toI_int, D.toB_bool, D.toS_str, D.toA_agg, D.toT_tup, D.toR_sl, enc_toA, encS_toR, encS_len, List.drop_succ_cons, List.drop_zero, List.take_succ_cons, List.take_zero, len_str, at_byte, cmpI_lss, cmpI_leq, cmpI_gtr, cmpI_geq, cmpI_eql, cmpI_neq, cmpS_eql, cmpS_neq, cmpS_lss, cmpS_geq, Int.toNat_natCast, Int.toNat_zero, ha]; simp; omega
      have hi : ((p.length : Int) - 1).toNat = p.length - 1 := by omega
      ((first | refine den_call ?_ (c_impl_ParseVersion (nth p (p.length - 1)) (hp _ (by omega))) (ty_pvD _) ?_ | refine den_callR ?_ (c_impl_ParseVersion (nth p (p.length - 1)) (hp _ (by omega))) (ty_pvD _) ?_ | refine den_call ?_ (.ofR (c_impl_ParseVersion (nth p (p.length - 1)) (hp _ (by omega)))) (ty_pvD _) ?_); (focus (simp only [VC.den, E.den, List.map_cons, List.map_nil, Option.map_none, Option.map_some, List.getD_cons_zero, List.getD_cons_succ, List.cons_append, List.nil_append, List.append_nil, D.toI_int, D.toB_bool, D.toS_str, D.toA_agg, D.toT_tup, D.toR_sl, enc_toA, encS_toR, encS_len, List.drop_succ_cons, List.drop_zero, List.take_succ_cons, List.take_zero, gsH_nil, and_true, ha, hi, row_str, cells_str]; try exact rfl)); (simp only [List.cons_append, List.nil_append]))
      refine den_ret ?_
      simp only [E.den, List.map_cons, List.map_nil, Option.map_none, Option.map_some, List.getD_cons_zero, List.getD_cons_succ, List.cons_append, List.nil_append, List.append_nil, D.toI_int, D.toB_bool, D.toS_str, D.toA_agg, D.toT_tup, D.toR_sl, enc_toA, encS_toR, encS_len, List.drop_succ_cons, List.drop_zero, List.take_succ_cons, List.take_zero, len_str, at_byte, cmpI_lss, cmpI_leq, cmpI_gtr, cmpI_geq, cmpI_eql, cmpI_neq, cmpS_eql, cmpS_neq, cmpS_lss, cmpS_geq, Int.toNat_natCast, Int.toNat_zero, pvD, row_str, cells_str, cells_Ver, cells_Need]
      rfl
def noEntry : Entry := ⟨noText, [], ⟨0, 0⟩, []⟩
def peV (s : ByteArray) : Entry := if peB s then peE s else noEntry
theorem peB_no {s : ByteArray} (h : ¬ ((Lib.cut s.data.toList [58, 32]).2.2 = true ∧ 2 ≤ (peQ s).length ∧ (peQ s).length ≤ 3 ∧ pvB (nth (peQ s) 1) = true ∧ (∀ k, k < (peW s).length → (pnV (nth (peW s) k)).2 = true) ∧ entryB (peE s) = true ∧ entT (peE s) = s)) : peB s = false := by
  cases hb : peB s with
  | false => rfl
  | true =>
    exfalso
    apply h
    unfold peB at hb
    simp only [Bool.and_eq_true, decide_eq_true_eq] at hb
    refine ⟨hb.1.1.1.1.1.1, hb.1.1.1.1.1.2, hb.1.1.1.1.2, hb.1.1.1.2, fun k hk => ?_, hb.1.2, hb.2⟩
    exact List.all_eq_true.1 hb.1.1.2 _ (nth_mem hk)
theorem peB_yes {s : ByteArray} (h1 : (Lib.cut s.data.toList [58, 32]).2.2 = true) (h2 : 2 ≤ (peQ s).length) (h3 : (peQ s).length ≤ 3) (h4 : pvB (nth (peQ s) 1) = true) (h5 : ∀ k, k < (peW s).length → (pnV (nth (peW s) k)).2 = true) (h6 : entryB (peE s) = true) (h7 : entT (peE s) = s) : peB s = true := by
  unfold peB
  simp only [Bool.and_eq_true, decide_eq_true_eq]
  refine ⟨⟨⟨⟨⟨⟨h1, h2⟩, h3⟩, h4⟩, List.all_eq_true.2 fun x hx => ?_⟩, h6⟩, h7⟩
  obtain ⟨k, hk, rfl⟩ := List.getElem_of_mem hx
  have := h5 k hk
  have e : nth (peW s) k = (peW s)[k] := by simp [nth, hk]
  rw [e] at this
  exact this
/-! Contract: the reader of entries -/
theorem pe_none {s : ByteArray} (h : peB s = false) : D.tup [enc (peV s), .bool (peB s)] = .tup [enc noEntry, .bool false] := by
  rw [peV, if_neg (by simp [h]), h]
theorem pe_some {s : ByteArray} (h : peB s = true) : D.tup [enc (peV s), .bool (peB s)] = .tup [enc (peE s), .bool true] := by
  rw [peV, if_pos h, h]
theorem c_impl_ParseEntry [HasAbil] [HasMax] [HasPow] [HasErr] (s : ByteArray) (hs : s.size < 4294967281) : FunR Tryz.prog 17 none [.str s] (.tup [enc (peV s), .bool (peB s)]) [] [(4, 4)] := by
  refine FunR.ofV vc_impl_ParseEntry_ok ty_impl_ParseEntry_ok rt_impl_ParseEntry_ok rfl ?_ (fun hfit => ?_)
  · exact ⟨trivial, trivial⟩
  unfold vc_impl_ParseEntry
  have hc := (cut_len s.data.toList [58, 32]).2
  rw [size_data] at hc
  ((first | refine den_call ?_ (c_Cut s [58, 32] hs) (⟨trivial, trivial, trivial, trivial⟩) ?_ | refine den_callR ?_ (c_Cut s [58, 32] hs) (⟨trivial, trivial, trivial, trivial⟩) ?_ | refine den_call ?_ (.ofR (c_Cut s [58, 32] hs)) (⟨trivial, trivial, trivial, trivial⟩) ?_); (focus (simp only [VC.den, E.den, List.map_cons, List.map_nil, Option.map_none, Option.map_some, List.getD_cons_zero, List.getD_cons_succ, List.cons_append, List.nil_append, List.append_nil, D.toI_int, D.toB_bool, D.toS_str, D.toA_agg, D.toT_tup, D.toR_sl, enc_toA, encS_toR, encS_len, List.drop_succ_cons, List.drop_zero, List.take_succ_cons, List.take_zero, gsH_nil, and_true]; try exact rfl)); (simp only [List.cons_append, List.nil_append]))
  have hb : (bs (Lib.cut s.data.toList [58, 32]).2.1).size < 4294967281 := by rw [bs_size]; omega
  ((first | refine den_call ?_ (c_Split (bs (Lib.cut s.data.toList [58, 32]).2.1) tSemi hb (by decide)) (ty_strS _) ?_ | refine den_callR ?_ (c_Split (bs (Lib.cut s.data.toList [58, 32]).2.1) tSemi hb (by decide)) (ty_strS _) ?_ | refine den_call ?_ (.ofR (c_Split (bs (Lib.cut s.data.toList [58, 32]).2.1) tSemi hb (by decide))) (ty_strS _) ?_); (focus (simp only [VC.den, E.den, List.map_cons, List.map_nil, Option.map_none, Option.map_some, List.getD_cons_zero, List.getD_cons_succ, List.cons_append, List.nil_append, List.append_nil, D.toI_int, D.toB_bool, D.toS_str, D.toA_agg, D.toT_tup, D.toR_sl, enc_toA, encS_toR, encS_len, List.drop_succ_cons, List.drop_zero, List.take_succ_cons, List.take_zero, gsH_nil, and_true, cutD3, tSemi_eq]; try exact rfl)); (simp only [List.cons_append, List.nil_append]))
  have hQ : pieces (bs (Lib.cut s.data.toList [58, 32]).2.1) tSemi = peQ s := rfl
  have hq : ∀ k, k < (peQ s).length → (nth (peQ s) k).size < 4294967281 := fun k hk => by
    have := piece_size (s := bs (Lib.cut s.data.toList [58, 32]).2.1) (sep := tSemi) (by decide) hk
    rw [hQ] at this
    omega
  rw [hQ]
  refine den_ite (fun h1 => ?_) (fun h1 => ?_)
  · simp only [E.den, List.map_cons, List.map_nil, Option.map_none, Option.map_some, List.getD_cons_zero, List.getD_cons_succ, List.cons_append, List.nil_append, List.append_nil, D.toI_int, D.toB_bool, D.toS_str, D.toA_agg, D.toT_tup, D.toR_sl, enc_toA, encS_toR, encS_len, List.drop_succ_cons, List.drop_zero, List.take_succ_cons, List.take_zero, len_str, at_byte, cmpI_lss, cmpI_leq, cmpI_gtr, cmpI_geq, cmpI_eql, cmpI_neq, cmpS_eql, cmpS_neq, cmpS_lss, cmpS_geq, Int.toNat_natCast, Int.toNat_zero, cutD3] at h1
    have hn : peB s = false := peB_no (by
      rintro ⟨a1, a2, a3, _⟩
      rw [a1] at h1
      simp at h1
      omega)
    refine den_ret ?_
    rw [pe_none hn]; rfl
  simp only [E.den, List.map_cons, List.map_nil, Option.map_none, Option.map_some, List.getD_cons_zero, List.getD_cons_succ, List.cons_append, List.nil_append, List.append_nil, D.toI_int, D.toB_bool, D.toS_str, D.toA_agg, D.toT_tup, D.toR_sl, enc_toA, encS_toR, encS_len, List.drop_succ_cons, List.drop_zero, List.take_succ_cons, List.take_zero, len_str, at_byte, cmpI_lss, cmpI_leq, cmpI_gtr, cmpI_geq, cmpI_eql, cmpI_neq, cmpS_eql, cmpS_neq, cmpS_lss, cmpS_geq, Int.toNat_natCast, Int.toNat_zero, cutD3] at h1
  simp only [Bool.or_eq_false_iff, Bool.not_eq_false', decide_eq_false_iff_not] at h1
  have q1 := h1.1.1
  have q2 : 2 ≤ (peQ s).length := by omega
  have q3 : (peQ s).length ≤ 3 := by omega
  refine den_cond (fun _ => ?_) ?_
  · simp only [E.den, List.map_cons, List.map_nil, Option.map_none, Option.map_some, List.getD_cons_zero, List.getD_cons_succ, List.cons_append, List.nil_append, List.append_nil, D.toI_int, D.toB_bool, D.toS_str, D.toA_agg, D.toT_tup, D.toR_sl, enc_toA, encS_toR, encS_len, List.drop_succ_cons, List.drop_zero, List.take_succ_cons, List.take_zero, len_str, at_byte, cmpI_lss, cmpI_leq, cmpI_gtr, cmpI_geq, cmpI_eql, cmpI_neq, cmpS_eql, cmpS_neq, cmpS_lss, cmpS_geq, Int.toNat_natCast, Int.toNat_zero]; simp; omega
  ((first | refine den_call ?_ (c_impl_ParseVersion (nth (peQ s) 1) (hq 1 (by omega))) (ty_pvD _) ?_ | refine den_callR ?_ (c_impl_ParseVersion (nth (peQ s) 1) (hq 1 (by omega))) (ty_pvD _) ?_ | refine den_call ?_ (.ofR (c_impl_ParseVersion (nth (peQ s) 1) (hq 1 (by omega)))) (ty_pvD _) ?_); (focus (simp only [VC.den, E.den, List.map_cons, List.map_nil, Option.map_none, Option.map_some, List.getD_cons_zero, List.getD_cons_succ, List.cons_append, List.nil_append, List.append_nil, D.toI_int, D.toB_bool, D.toS_str, D.toA_agg, D.toT_tup, D.toR_sl, enc_toA, encS_toR, encS_len, List.drop_succ_cons, List.drop_zero, List.take_succ_cons, List.take_zero, gsH_nil, and_true, row_str, cells_str]; try exact rfl)); (simp only [List.cons_append, List.nil_append]))
  refine den_ite (fun h2 => ?_) (fun h2 => ?_)
  · simp only [E.den, List.map_cons, List.map_nil, Option.map_none, Option.map_some, List.getD_cons_zero, List.getD_cons_succ, List.cons_append, List.nil_append, List.append_nil, D.toI_int, D.toB_bool, D.toS_str, D.toA_agg, D.toT_tup, D.toR_sl, enc_toA, encS_toR, encS_len, List.drop_succ_cons, List.drop_zero, List.take_succ_cons, List.take_zero, len_str, at_byte, cmpI_lss, cmpI_leq, cmpI_gtr, cmpI_geq, cmpI_eql, cmpI_neq, cmpS_eql, cmpS_neq, cmpS_lss, cmpS_geq, Int.toNat_natCast, Int.toNat_zero, pvD] at h2
    have hn : peB s = false := peB_no (by
      rintro ⟨_, _, _, a4, _⟩
      rw [a4] at h2
      simp at h2)
    refine den_ret ?_
    rw [pe_none hn]; rfl
  simp only [E.den, List.map_cons, List.map_nil, Option.map_none, Option.map_some, List.getD_cons_zero, List.getD_cons_succ, List.cons_append, List.nil_append, List.append_nil, D.toI_int, D.toB_bool, D.toS_str, D.toA_agg, D.toT_tup, D.toR_sl, enc_toA, encS_toR, encS_len, List.drop_succ_cons, List.drop_zero, List.take_succ_cons, List.take_zero, len_str, at_byte, cmpI_lss, cmpI_leq, cmpI_gtr, cmpI_geq, cmpI_eql, cmpI_neq, cmpS_eql, cmpS_neq, cmpS_lss, cmpS_geq, Int.toNat_natCast, Int.toNat_zero, pvD] at h2
  have q4 : pvB (nth (peQ s) 1) = true := by simpa using h2
  refine den_cond (fun _ => ?_) ?_
  · simp only [E.den, List.map_cons, List.map_nil, Option.map_none, Option.map_some, List.getD_cons_zero, List.getD_cons_succ, List.cons_append, List.nil_append, List.append_nil, D.toI_int, D.toB_bool, D.toS_str, D.toA_agg, D.toT_tup, D.toR_sl, enc_toA, encS_toR, encS_len, List.drop_succ_cons, List.drop_zero, List.take_succ_cons, List.take_zero, len_str, at_byte, cmpI_lss, cmpI_leq, cmpI_gtr, cmpI_geq, cmpI_eql, cmpI_neq, cmpS_eql, cmpS_neq, cmpS_lss, cmpS_geq, Int.toNat_natCast, Int.toNat_zero]; simp; omega
  ((first | refine den_call ?_ (c_Split (nth (peQ s) 0) tSp (hq 0 (by omega)) (by decide)) (ty_strS _) ?_ | refine den_callR ?_ (c_Split (nth (peQ s) 0) tSp (hq 0 (by omega)) (by decide)) (ty_strS _) ?_ | refine den_call ?_ (.ofR (c_Split (nth (peQ s) 0) tSp (hq 0 (by omega)) (by decide))) (ty_strS _) ?_); (focus (simp only [VC.den, E.den, List.map_cons, List.map_nil, Option.map_none, Option.map_some, List.getD_cons_zero, List.getD_cons_succ, List.cons_append, List.nil_append, List.append_nil, D.toI_int, D.toB_bool, D.toS_str, D.toA_agg, D.toT_tup, D.toR_sl, enc_toA, encS_toR, encS_len, List.drop_succ_cons, List.drop_zero, List.take_succ_cons, List.take_zero, gsH_nil, and_true, row_str, cells_str, Int.toNat_zero, tSp_eq]; try exact rfl)); (simp only [List.cons_append, List.nil_append]))
  refine den_ite (fun h3 => ?_) (fun h3 => ?_)
  · simp only [E.den, List.map_cons, List.map_nil, Option.map_none, Option.map_some, List.getD_cons_zero, List.getD_cons_succ, List.cons_append, List.nil_append, List.append_nil, D.toI_int, D.toB_bool, D.toS_str, D.toA_agg, D.toT_tup, D.toR_sl, enc_toA, encS_toR, encS_len, List.drop_succ_cons, List.drop_zero, List.take_succ_cons, List.take_zero, len_str, at_byte, cmpI_lss, cmpI_leq, cmpI_gtr, cmpI_geq, cmpI_eql, cmpI_neq, cmpS_eql, cmpS_neq, cmpS_lss, cmpS_geq, Int.toNat_natCast, Int.toNat_zero] at h3
    have h3 : (peQ s).length = 3 := by simp at h3; omega
    have hW : peW s = pieces (nth (peQ s) 2) tCom := if_pos h3
    refine den_cond (fun _ => ?_) ?_
    · simp only [E.den, List.map_cons, List.map_nil, Option.map_none, Option.map_some, List.getD_cons_zero, List.getD_cons_succ, List.cons_append, List.nil_append, List.append_nil, D.toI_int, D.toB_bool, D.toS_str, D.toA_agg, D.toT_tup, D.toR_sl, enc_toA, encS_toR, encS_len, List.drop_succ_cons, List.drop_zero, List.take_succ_cons, List.take_zero, len_str, at_byte, cmpI_lss, cmpI_leq, cmpI_gtr, cmpI_geq, cmpI_eql, cmpI_neq, cmpS_eql, cmpS_neq, cmpS_lss, cmpS_geq, Int.toNat_natCast, Int.toNat_zero]; simp; omega
    ((first | refine den_call ?_ (c_Split (nth (peQ s) 2) tCom (hq 2 (by omega)) (by decide)) (ty_strS _) ?_ | refine den_callR ?_ (c_Split (nth (peQ s) 2) tCom (hq 2 (by omega)) (by decide)) (ty_strS _) ?_ | refine den_call ?_ (.ofR (c_Split (nth (peQ s) 2) tCom (hq 2 (by omega)) (by decide))) (ty_strS _) ?_); (focus (simp only [VC.den, E.den, List.map_cons, List.map_nil, Option.map_none, Option.map_some, List.getD_cons_zero, List.getD_cons_succ, List.cons_append, List.nil_append, List.append_nil, D.toI_int, D.toB_bool, D.toS_str, D.toA_agg, D.toT_tup, D.toR_sl, enc_toA, encS_toR, encS_len, List.drop_succ_cons, List.drop_zero, List.take_succ_cons, List.take_zero, gsH_nil, and_true, row_str, cells_str, tCom_eq]; try exact rfl)); (simp only [List.cons_append, List.nil_append]))
    have hz := (pieces_size (s := nth (peQ s) 2) (sep := tCom) (by decide)).1
    have hq2 := hq 2 (by omega)
    have hw : ∀ k, k < (peW s).length → (nth (peW s) k).size < 4294967281 := fun k hk => by
      rw [hW] at hk ⊢
      have := piece_size (s := nth (peQ s) 2) (sep := tCom) (by decide) hk
      omega
    rw [← hW] at hz ⊢
    refine den_for (peW s).length (fun k => [.int .i64 k, .str (peN s), encS (peE s).recipe, .int .i64 (peE s).ver.maj, .int .i64 (peE s).ver.min, encS (((peW s).take k).map fun x => (pnV x).1)]) (fun k => ∀ i, i < k → (pnV (nth (peW s) i)).2 = true) rfl (by omega) ?_
    intro k hk hI _
    simp only [List.cons_append, List.nil_append]
    refine den_ite (fun h4 => ?_) (fun h4 => ?_)
    · simp only [E.den, List.map_cons, List.map_nil, Option.map_none, Option.map_some, List.getD_cons_zero, List.getD_cons_succ, List.cons_append, List.nil_append, List.append_nil, D.toI_int, D.toB_bool, D.toS_str, D.toA_agg, D.toT_tup, D.toR_sl, enc_toA, encS_toR, encS_len, List.drop_succ_cons, List.drop_zero, List.take_succ_cons, List.take_zero, len_str, at_byte, cmpI_lss, cmpI_leq, cmpI_gtr, cmpI_geq, cmpI_eql, cmpI_neq, cmpS_eql, cmpS_neq, cmpS_lss, cmpS_geq, Int.toNat_natCast, Int.toNat_zero] at h4
      have h4 : k < (peW s).length := by simp at h4; exact h4
      refine den_cond (fun _ => ?_) ?_
      · simp only [E.den, List.map_cons, List.map_nil, Option.map_none, Option.map_some, List.getD_cons_zero, List.getD_cons_succ, List.cons_append, List.nil_append, List.append_nil, D.toI_int, D.toB_bool, D.toS_str, D.toA_agg, D.toT_tup, D.toR_sl, enc_toA, encS_toR, encS_len, List.drop_succ_cons, List.drop_zero, List.take_succ_cons, List.take_zero, len_str, at_byte, cmpI_lss, cmpI_leq, cmpI_gtr, cmpI_geq, cmpI_eql, cmpI_neq, cmpS_eql, cmpS_neq, cmpS_lss, cmpS_geq, Int.toNat_natCast, Int.toNat_zero]; simp; omega
      ((first | refine den_call ?_ (c_impl_parseNeed (nth (peW s) k) (hw k h4)) (⟨ty_Need _, trivial, trivial⟩) ?_ | refine den_callR ?_ (c_impl_parseNeed (nth (peW s) k) (hw k h4)) (⟨ty_Need _, trivial, trivial⟩) ?_ | refine den_call ?_ (.ofR (c_impl_parseNeed (nth (peW s) k) (hw k h4))) (⟨ty_Need _, trivial, trivial⟩) ?_); (focus (simp only [VC.den, E.den, List.map_cons, List.map_nil, Option.map_none, Option.map_some, List.getD_cons_zero, List.getD_cons_succ, List.cons_append, List.nil_append, List.append_nil, D.toI_int, D.toB_bool, D.toS_str, D.toA_agg, D.toT_tup, D.toR_sl, enc_toA, encS_toR, encS_len, List.drop_succ_cons, List.drop_zero, List.take_succ_cons, List.take_zero, gsH_nil, and_true, row_str, cells_str, Int.toNat_natCast]; try exact rfl)); (simp only [List.cons_append, List.nil_append]))
      refine den_ite (fun h5 => ?_) (fun h5 => ?_)
      · simp only [E.den, List.map_cons, List.map_nil, Option.map_none, Option.map_some, List.getD_cons_zero, List.getD_cons_succ, List.cons_append, List.nil_append, List.append_nil, D.toI_int, D.toB_bool, D.toS_str, D.toA_agg, D.toT_tup, D.toR_sl, enc_toA, encS_toR, encS_len, List.drop_succ_cons, List.drop_zero, List.take_succ_cons, List.take_zero, len_str, at_byte, cmpI_lss, cmpI_leq, cmpI_gtr, cmpI_geq, cmpI_eql, cmpI_neq, cmpS_eql, cmpS_neq, cmpS_lss, cmpS_geq, Int.toNat_natCast, Int.toNat_zero] at h5
        have hn : peB s = false := peB_no (by
          rintro ⟨_, _, _, _, a5, _⟩
          rw [a5 k h4] at h5
          simp at h5)
        refine den_ret ?_
        rw [pe_none hn]; rfl
      · simp only [E.den, List.map_cons, List.map_nil, Option.map_none, Option.map_some, List.getD_cons_zero, List.getD_cons_succ, List.cons_append, List.nil_append, List.append_nil, D.toI_int, D.toB_bool, D.toS_str, D.toA_agg, D.toT_tup, D.toR_sl, enc_toA, encS_toR, encS_len, List.drop_succ_cons, List.drop_zero, List.take_succ_cons, List.take_zero, len_str, at_byte, cmpI_lss, cmpI_leq, cmpI_gtr, cmpI_geq, cmpI_eql, cmpI_neq, cmpS_eql, cmpS_neq, cmpS_lss, cmpS_geq, Int.toNat_natCast, Int.toNat_zero] at h5
        have h5 : (pnV (nth (peW s) k)).2 = true := by simpa using h5
        refine den_cond (fun _ => ?_) ?_
        · simp only [E.den, List.map_cons, List.map_nil, Option.map_none, Option.map_some, List.getD_cons_zero, List.getD_cons_succ, List.cons_append, List.nil_append, List.append_nil, D.toI_int, D.toB_bool, D.toS_str, D.toA_agg, D.toT_tup, D.toR_sl, enc_toA, encS_toR, encS_len, List.drop_succ_cons, List.drop_zero, List.take_succ_cons, List.take_zero, len_str, at_byte, cmpI_lss, cmpI_leq, cmpI_gtr, cmpI_geq, cmpI_eql, cmpI_neq, cmpS_eql, cmpS_neq, cmpS_lss, cmpS_geq, Int.toNat_natCast, Int.toNat_zero]; simp [maxLen]; omega
        refine den_next h4 ?_ fun i hi => ?_
        · simp only [E.den, List.map_cons, List.map_nil, Option.map_none, Option.map_some, List.getD_cons_zero, List.getD_cons_succ, List.cons_append, List.nil_append, List.append_nil, D.toI_int, D.toB_bool, D.toS_str, D.toA_agg, D.toT_tup, D.toR_sl, enc_toA, encS_toR, encS_len, List.drop_succ_cons, List.drop_zero, List.take_succ_cons, List.take_zero, len_str, at_byte, cmpI_lss, cmpI_leq, cmpI_gtr, cmpI_geq, cmpI_eql, cmpI_neq, cmpS_eql, cmpS_neq, cmpS_lss, cmpS_geq, Int.toNat_natCast, Int.toNat_zero]
          rw [ar_add (by omega) (by omega), map_take_succ _ h4]
          simp [encS, enc]
        · rcases Nat.lt_or_ge i k with h | h
          · exact hI i h
          · obtain rfl : i = k := by omega
            exact h5
    · simp only [E.den, List.map_cons, List.map_nil, Option.map_none, Option.map_some, List.getD_cons_zero, List.getD_cons_succ, List.cons_append, List.nil_append, List.append_nil, D.toI_int, D.toB_bool, D.toS_str, D.toA_agg, D.toT_tup, D.toR_sl, enc_toA, encS_toR, encS_len, List.drop_succ_cons, List.drop_zero, List.take_succ_cons, List.take_zero, len_str, at_byte, cmpI_lss, cmpI_leq, cmpI_gtr, cmpI_geq, cmpI_eql, cmpI_neq, cmpS_eql, cmpS_neq, cmpS_lss, cmpS_geq, Int.toNat_natCast, Int.toNat_zero] at h4
      obtain rfl : k = (peW s).length := by simp at h4; omega
      have hE : (peW s).take (peW s).length = peW s := List.take_length
      ((first | refine den_call ?_ (c_impl_IsEntry (peE s)) (trivial) ?_ | refine den_callR ?_ (c_impl_IsEntry (peE s)) (trivial) ?_ | refine den_call ?_ (.ofR (c_impl_IsEntry (peE s))) (trivial) ?_); (focus (simp only [VC.den, E.den, List.map_cons, List.map_nil, Option.map_none, Option.map_some, List.getD_cons_zero, List.getD_cons_succ, List.cons_append, List.nil_append, List.append_nil, D.toI_int, D.toB_bool, D.toS_str, D.toA_agg, D.toT_tup, D.toR_sl, enc_toA, encS_toR, encS_len, List.drop_succ_cons, List.drop_zero, List.take_succ_cons, List.take_zero, gsH_nil, and_true, hE]; try exact rfl)); (simp only [List.cons_append, List.nil_append]))
      ((first | refine den_call ?_ (c_impl_FormatEntry (peE s)) (trivial) ?_ | refine den_callR ?_ (c_impl_FormatEntry (peE s)) (trivial) ?_ | refine den_call ?_ (.ofR (c_impl_FormatEntry (peE s))) (trivial) ?_); (focus (simp only [VC.den, E.den, List.map_cons, List.map_nil, Option.map_none, Option.map_some, List.getD_cons_zero, List.getD_cons_succ, List.cons_append, List.nil_append, List.append_nil, D.toI_int, D.toB_bool, D.toS_str, D.toA_agg, D.toT_tup, D.toR_sl, enc_toA, encS_toR, encS_len, List.drop_succ_cons, List.drop_zero, List.take_succ_cons, List.take_zero, gsH_nil, and_true, hE]; try exact rfl)); (simp only [List.cons_append, List.nil_append]))
      refine den_ite (fun h6 => ?_) (fun h6 => ?_)
      · simp only [E.den, List.map_cons, List.map_nil, Option.map_none, Option.map_some, List.getD_cons_zero, List.getD_cons_succ, List.cons_append, List.nil_append, List.append_nil, D.toI_int, D.toB_bool, D.toS_str, D.toA_agg, D.toT_tup, D.toR_sl, enc_toA, encS_toR, encS_len, List.drop_succ_cons, List.drop_zero, List.take_succ_cons, List.take_zero, len_str, at_byte, cmpI_lss, cmpI_leq, cmpI_gtr, cmpI_geq, cmpI_eql, cmpI_neq, cmpS_eql, cmpS_neq, cmpS_lss, cmpS_geq, Int.toNat_natCast, Int.toNat_zero] at h6
        have hn : peB s = false := peB_no (by
          rintro ⟨_, _, _, _, _, a6, a7⟩
          rw [a6, a7] at h6
          simp at h6)
        refine den_ret ?_
        rw [pe_none hn]; rfl
      · simp only [E.den, List.map_cons, List.map_nil, Option.map_none, Option.map_some, List.getD_cons_zero, List.getD_cons_succ, List.cons_append, List.nil_append, List.append_nil, D.toI_int, D.toB_bool, D.toS_str, D.toA_agg, D.toT_tup, D.toR_sl, enc_toA, encS_toR, encS_len, List.drop_succ_cons, List.drop_zero, List.take_succ_cons, List.take_zero, len_str, at_byte, cmpI_lss, cmpI_leq, cmpI_gtr, cmpI_geq, cmpI_eql, cmpI_neq, cmpS_eql, cmpS_neq, cmpS_lss, cmpS_geq, Int.toNat_natCast, Int.toNat_zero] at h6
        simp only [Bool.or_eq_false_iff, Bool.not_eq_false', decide_eq_false_iff_not, Decidable.not_not] at h6
        have hy : peB s = true := peB_yes q1 q2 q3 q4 hI h6.1 (by simpa using h6.2)
        refine den_ret ?_
        rw [pe_some hy]
        simp only [E.den, List.map_cons, List.map_nil, Option.map_none, Option.map_some, List.getD_cons_zero, List.getD_cons_succ, List.cons_append, List.nil_append, List.append_nil, D.toI_int, D.toB_bool, D.toS_str, D.toA_agg, D.toT_tup, D.toR_sl, enc_toA, encS_toR, encS_len, List.drop_succ_cons, List.drop_zero, List.take_succ_cons, List.take_zero, len_str, at_byte, cmpI_lss, cmpI_leq, cmpI_gtr, cmpI_geq, cmpI_eql, cmpI_neq, cmpS_eql, cmpS_neq, cmpS_lss, cmpS_geq, Int.toNat_natCast, Int.toNat_zero, hE]
        rfl
  · simp only [E.den, List.map_cons, List.map_nil, Option.map_none, Option.map_some, List.getD_cons_zero, List.getD_cons_succ, List.cons_append, List.nil_append, List.append_nil, D.toI_int, D.toB_bool, D.toS_str, D.toA_agg, D.toT_tup, D.toR_sl, enc_toA, encS_toR, encS_len, List.drop_succ_cons, List.drop_zero, List.take_succ_cons, List.take_zero, len_str, at_byte, cmpI_lss, cmpI_leq, cmpI_gtr, cmpI_geq, cmpI_eql, cmpI_neq, cmpS_eql, cmpS_neq, cmpS_lss, cmpS_geq, Int.toNat_natCast, Int.toNat_zero] at h3
    have h3 : (peQ s).length ≠ 3 := by simp at h3; omega
    have hW : peW s = [] := if_neg h3
    have he : peE s = ⟨peN s, pieces (nth (peQ s) 0) tSp, pvV (nth (peQ s) 1), []⟩ := by unfold peE; rw [hW]; rfl
    ((first | refine den_call ?_ (c_impl_IsEntry ⟨peN s, pieces (nth (peQ s) 0) tSp, pvV (nth (peQ s) 1), []⟩) (trivial) ?_ | refine den_callR ?_ (c_impl_IsEntry ⟨peN s, pieces (nth (peQ s) 0) tSp, pvV (nth (peQ s) 1), []⟩) (trivial) ?_ | refine den_call ?_ (.ofR (c_impl_IsEntry ⟨peN s, pieces (nth (peQ s) 0) tSp, pvV (nth (peQ s) 1), []⟩)) (trivial) ?_); (focus (simp only [VC.den, E.den, List.map_cons, List.map_nil, Option.map_none, Option.map_some, List.getD_cons_zero, List.getD_cons_succ, List.cons_append, List.nil_append, List.append_nil, D.toI_int, D.toB_bool, D.toS_str, D.toA_agg, D.toT_tup, D.toR_sl, enc_toA, encS_toR, encS_len, List.drop_succ_cons, List.drop_zero, List.take_succ_cons, List.take_zero, gsH_nil, and_true, cutD3, pvD, cells_Ver]; try exact rfl)); (simp only [List.cons_append, List.nil_append]))
    ((first | refine den_call ?_ (c_impl_FormatEntry ⟨peN s, pieces (nth (peQ s) 0) tSp, pvV (nth (peQ s) 1), []⟩) (trivial) ?_ | refine den_callR ?_ (c_impl_FormatEntry ⟨peN s, pieces (nth (peQ s) 0) tSp, pvV (nth (peQ s) 1), []⟩) (trivial) ?_ | refine den_call ?_ (.ofR (c_impl_FormatEntry ⟨peN s, pieces (nth (peQ s) 0) tSp, pvV (nth (peQ s) 1), []⟩)) (trivial) ?_); (focus (simp only [VC.den, E.den, List.map_cons, List.map_nil, Option.map_none, Option.map_some, List.getD_cons_zero, List.getD_cons_succ, List.cons_append, List.nil_append, List.append_nil, D.toI_int, D.toB_bool, D.toS_str, D.toA_agg, D.toT_tup, D.toR_sl, enc_toA, encS_toR, encS_len, List.drop_succ_cons, List.drop_zero, List.take_succ_cons, List.take_zero, gsH_nil, and_true, cutD3, pvD, cells_Ver]; try exact rfl)); (simp only [List.cons_append, List.nil_append]))
    rw [← he]
    refine den_ite (fun h6 => ?_) (fun h6 => ?_)
    · simp only [E.den, List.map_cons, List.map_nil, Option.map_none, Option.map_some, List.getD_cons_zero, List.getD_cons_succ, List.cons_append, List.nil_append, List.append_nil, D.toI_int, D.toB_bool, D.toS_str, D.toA_agg, D.toT_tup, D.toR_sl, enc_toA, encS_toR, encS_len, List.drop_succ_cons, List.drop_zero, List.take_succ_cons, List.take_zero, len_str, at_byte, cmpI_lss, cmpI_leq, cmpI_gtr, cmpI_geq, cmpI_eql, cmpI_neq, cmpS_eql, cmpS_neq, cmpS_lss, cmpS_geq, Int.toNat_natCast, Int.toNat_zero] at h6
      have hn : peB s = false := peB_no (by
        rintro ⟨_, _, _, _, _, a6, a7⟩
        rw [a6, a7] at h6
        simp at h6)
      refine den_ret ?_
      rw [pe_none hn]; rfl
    · simp only [E.den, List.map_cons, List.map_nil, Option.map_none, Option.map_some, List.getD_cons_zero, List.getD_cons_succ, List.cons_append, List.nil_append, List.append_nil, D.toI_int, D.toB_bool, D.toS_str, D.toA_agg, D.toT_tup, D.toR_sl, enc_toA, encS_toR, encS_len, List.drop_succ_cons, List.drop_zero, List.take_succ_cons, List.take_zero, len_str, at_byte, cmpI_lss, cmpI_leq, cmpI_gtr, cmpI_geq, cmpI_eql, cmpI_neq, cmpS_eql, cmpS_neq, cmpS_lss, cmpS_geq, Int.toNat_natCast, Int.toNat_zero] at h6
      simp only [Bool.or_eq_false_iff, Bool.not_eq_false', decide_eq_false_iff_not, Decidable.not_not] at h6
      have hy : peB s = true := peB_yes q1 q2 q3 q4 (by rw [hW]; simp) h6.1 (by simpa using h6.2)
      refine den_ret ?_
      rw [pe_some hy, he]
      rfl
end Go.Proofs.YtmhfncdhplmomaaGreatDoor
