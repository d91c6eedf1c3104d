/- Contracts: texts joined; faces as texts. -/
import Derived.Test.YtjmakbnblpjkhaaGreatDoorH16
import Derived.Test.YtjmakbnblpjkhaaGreatDoorH13
import Derived.Test.YtjmakbnblpjkhaaGreatDoorH17
import Derived.Test.YtjmakbnblpjkhaaGreatDoorH15
import Derived.Test.YtjmakbnblpjkhaaGreatDoorH11
import Derived.WalkKit
import Derived.ProofKit
import Derived.OpenShut
import Derived.ShutString
import Derived.ChangeOld
import Derived.Below
import Derived.Deep.Slices
import Derived.Test.YtjmakbnblpjkhaaGreatDoorTie
import Derived.Test.YtjmakbnblpjkhaaGreatDoorCards
import Derived.HandedShaped
import Derived.LaidLaws
import Derived.Lib.LaidTab
import Derived.Stop.LaidErr
import Derived.Shelf.Vars
import Derived.SevenTiedAt
import Derived.ChangeVars
import Derived.Test.YtjmakbnblpjkhaaGreatDoorRows
import Derived.JoinedOf
import Derived.KernelRfl
import Derived.Test.YtjmakbnblpjkhaaGreatDoorH0
set_option linter.unusedVariables false
set_option linter.unusedSimpArgs false
set_option maxRecDepth 100000
set_option linter.unusedSectionVars false
namespace Go.Proofs.YtjmakbnblpjkhaaGreatDoor
open Go.RowKit Go
variable [GC]
def joinB (l : List ByteArray) (sep : ByteArray) : ByteArray := ⟨(Lib.join (l.map (·.data.toList)) sep.data.toList).toArray⟩
theorem joinB_size (l : List ByteArray) (sep : ByteArray) : (joinB l sep).size = (Lib.join (l.map (·.data.toList)) sep.data.toList).length := bs_size _
theorem bs_of (s : ByteArray) : bs s.data.toList = s := by simp [bs]
theorem joinB_succ {l : List ByteArray} {k : Nat} (h : k < l.length) (sep : ByteArray) : joinB (l.take (k + 1)) sep = if k = 0 then nth l k else joinB (l.take k) sep ++ sep ++ nth l k := by
 cases l with
 | nil => simp at h
 | cons x r =>
  cases k with
  | zero =>
   rw [if_pos rfl]
   show bs (Lib.join [x.data.toList] _) = _
   rw [Lib.join_one, bs_of]; rfl
  | succ j =>
   rw [if_neg (by omega)]
   have hj : j < r.length := by simpa using h
   have e : (r.map (·.data.toList))[j]? = some ((nth (x :: r) (j + 1)).data.toList) := by
    simp [nth, hj]
   simp only [joinB, List.take_succ_cons, List.map_cons, List.map_take, Lib.join_cons]
   rw [Lib.joinTail_take_succ _ _ _ _ e]
   apply ByteArray.ext
   simp [ByteArray.data_append]
theorem joinB_le (l : List ByteArray) (sep : ByteArray) (k : Nat) : (joinB (l.take k) sep).size ≤ (joinB l sep).size := by
 rw [joinB_size, joinB_size]
 cases l with
 | nil => simp
 | cons x r =>
  cases k with
  | zero => simp [Lib.join_nil]
  | succ j =>
   simp only [List.take_succ_cons, List.map_cons, List.map_take, Lib.join_cons, List.length_append]
   have := Lib.joinTail_take_le sep.data.toList (r.map (·.data.toList)) j
   omega
theorem joinB_bound {l : List ByteArray} {sep : ByteArray} {n : Nat} (h : ∀ k, k < l.length → (nth l k).size ≤ n) : (joinB l sep).size ≤ l.length * (n + sep.size) := by
 have : ∀ k, k ≤ l.length → (joinB (l.take k) sep).size ≤ k * (n + sep.size) := by
  intro k
  induction k with
  | zero => intro _; simp [joinB_size, Lib.join_nil]
  | succ k ih =>
   intro hk
   have h1 := ih (by omega)
   have h2 := h k (by omega)
   rw [joinB_succ (by omega), Nat.add_mul]
   split
   ·omega
   ·simp only [ByteArray.size_append]; omega
 simpa using this l.length (Nat.le_refl _)
theorem c_Join (l : List ByteArray) (sep : ByteArray) (hN : l.length ≤ 140737488355328) (hlen : (joinB l sep).size ≤ 140737488355328) : Fun Tryz.prog 89 none [encS l, .str sep] (.str (joinB l sep)) [] := by
 refine Fun.of_callsG (by kernel_rfl) fun w M vs hG hr => ?_
 obtain ⟨v, q, rfl, ⟨a, len, cap, rfl, rfl, hc, hm, ha, hb⟩, v2, q2, rfl, ⟨rfl, _⟩, rfl⟩ := hr
 have hsz : (joinB l sep).size ≤ maxLen := by unfold maxLen; omega
 by_cases h0 : l = []
 ·subst h0
  refine (Tryz.strings_Join_none a cap sep w).mono ?_
  rintro e w' ⟨rfl, rfl⟩
  exact ⟨_, rfl, ⟨rfl, hsz⟩, Below.refl _ _⟩
 ·have hpos : 0 < l.length := List.length_pos_iff.2 h0
  simp only [List.length_map] at hc hb ⊢
  cases a with
  | none => have := ha rfl; omega
  | some ad =>
   obtain ⟨b, o, s⟩ := ad
   obtain ⟨h1, h2⟩ := hb b o s rfl
   obtain rfl := h1 hpos
   have hcell : ∀ (j : Nat) x, l[j]? = some x → w.cell? ⟨b, o + j, none⟩ = some (.string x) := fun j x hx => by
    have h3 := Rws.get (n := 1) h2 (fun r hr => by obtain ⟨y, _, rfl⟩ := List.mem_map.1 hr; rfl) (i := j) (r := [.str x]) (by rw [List.getElem?_map, hx]; rfl)
    obtain ⟨⟨v, h4, _, rfl, _⟩, _⟩ := h3
    simpa using h4
   have hbk : b < w.heap.size := by
    have := hcell 0 _ (List.getElem?_eq_getElem hpos)
    unfold World.cell? at this
    rcases Nat.lt_or_ge b w.heap.size with h | h
    ·exact h
    ·simp only [Array.getElem?_eq_none h] at this; cases this
   refine (Tryz.strings_Join b o cap l sep w hcell hbk hN hc (by rw [← joinB_size]; exact hlen)).mono ?_
   rintro e w' ⟨rfl, hw⟩
   exact ⟨_, rfl, ⟨rfl, hsz⟩, hw⟩
theorem c_impl_JoinWith (l : List ByteArray) (sep : ByteArray) (hN : l.length ≤ 140737488355328) (hlen : (joinB l sep).size ≤ 140737488355328) : Fun Tryz.prog 36 none [encS l, .str sep] (.str (joinB l sep)) [] := by
 refine Fun.ofV vc_impl_JoinWith_ok ty_impl_JoinWith_ok rfl ?_ (fun hfit => ?_)
 ·exact ⟨ty_strS l, trivial, trivial⟩
 unfold vc_impl_JoinWith
 ((first | refine den_call ?_ (c_Join l sep hN hlen) (trivial) ?_ | refine den_callR ?_ (c_Join l sep hN hlen) (trivial) ?_ | refine den_call ?_ (.ofR (c_Join l sep hN hlen)) (trivial) ?_); (focus (simp only [VC.den, E.den, dEq, gsH_nil, and_true]; try exact rfl)); (simp only [cA]))
 exact den_ret rfl
theorem c_spec_JoinWith (l : List ByteArray) (sep : ByteArray) (hN : l.length ≤ 140737488355328) (hlen : (joinB l sep).size ≤ 140737488355328) : Fun Tryz.prog 44 none [encS l, .str sep] (.str (joinB l sep)) [] := by
 refine Fun.ofV vc_spec_JoinWith_ok ty_spec_JoinWith_ok rfl ?_ (fun hfit => ?_)
 ·exact ⟨ty_strS l, trivial, trivial⟩
 unfold vc_spec_JoinWith
 refine den_for l.length (fun k => [.str (joinB (l.take k) sep), .int .i64 k]) (fun _ => True) rfl trivial ?_
 intro k hk hI _
 simp only [cA]
 refine den_ite (fun h2 => ?_) (fun h2 => ?_)
 ·simp only [E.den, dEq, iEq, sEq] at h2
  have h2 : k < l.length := by simp at h2; exact h2
  (refine den_cond (fun hg => ?_) ?_; (focus (simp only [gsH, gE, E.den, dEq, iEq, sEq] at hg ⊢; (try simp only [D.bool.injEq] at hg); (try simp only [D.bool.injEq]); grind)))
  have hle := joinB_le l sep (k + 1)
  have e := joinB_succ h2 sep
  refine den_ite (fun h3 => ?_) (fun h3 => ?_)
  ·simp only [E.den, dEq, iEq, sEq] at h3
   have h3 : k ≠ 0 := by simp at h3; omega
   rw [if_neg h3] at e
   rw [e, ByteArray.size_append, ByteArray.size_append] at hle
   refine den_cond (fun _ => ?_) ?_
   ·simp only [E.den, dEq, iEq, sEq]; simp [maxLen]; exact decide_eq_true (by omega)
   refine den_cond (fun _ => ?_) ?_
   ·simp only [E.den, dEq, iEq, sEq, row_str, cells_str]; simp [maxLen, ByteArray.size_append]; omega
   refine den_next h2 ?_ trivial
   simp only [E.den, dEq, iEq, sEq, row_str, cells_str]
   rw [ar_add (by omega) (by omega), e]; rfl
  ·simp only [E.den, dEq, iEq, sEq] at h3
   have h3 : k = 0 := by simp at h3; omega
   subst h3
   rw [if_pos rfl] at e
   rw [e] at hle
   refine den_cond (fun _ => ?_) ?_
   ·simp only [E.den, dEq, iEq, sEq, row_str, cells_str]; simp [maxLen, joinB_size, Lib.join_nil]; omega
   refine den_next h2 ?_ trivial
   simp only [E.den, dEq, iEq, sEq, row_str, cells_str]
   rw [e]
   have : joinB [] sep ++ nth l 0 = nth l 0 := by
    apply ByteArray.ext
    simp [joinB, Lib.join_nil, ByteArray.data_append]
   rw [this]; rfl
 ·simp only [E.den, dEq, iEq, sEq] at h2
  obtain rfl : k = l.length := by simp at h2; omega
  refine den_ret ?_
  simp only [E.den, dEq, iEq, sEq]
  rw [List.take_length]
/-! Arrays of texts that the program's variables hold -/
def abils : List ByteArray := [⟨#[114, 117, 110]⟩, ⟨#[107, 101, 101, 112]⟩, ⟨#[116, 101, 108, 108]⟩, ⟨#[104, 101, 97, 114]⟩, ⟨#[115, 97, 118, 101]⟩, ⟨#[104, 101, 97, 108]⟩]
class HasAbil : Prop where
 h : ∀ w : World, GInv w → GHas w 1 fun cs => cs = (abils.map Value.string).toArray
end Go.Proofs.YtjmakbnblpjkhaaGreatDoor
/- Contracts: entries as texts. -/
namespace Go.Proofs.YtjmakbnblpjkhaaGreatDoor
open Go.RowKit Go
variable [GC]
theorem dec_ok {p : Prop} [Decidable p] (h : p) : D.bool (decide p) = .bool true := by simp [h]
def tSp : ByteArray := ⟨#[32]⟩
theorem tSp_eq : (⟨#[32]⟩ : ByteArray) = tSp := rfl
theorem nameB_le {s : ByteArray} (h : nameB s = true) : s.size ≤ 8 := by
 unfold nameB at h; simp at h; omega
theorem map_take_succ {α β : Type} [Inhabited α] (f : α → β) {l : List α} {k : Nat} (h : k < l.length) : (l.take (k + 1)).map f = (l.take k).map f ++ [f (nth l k)] := by
 rw [List.take_succ_eq_append_getElem h, List.map_append]
 simp [nth, h]
/-! What a recipe's text may be -/
end Go.Proofs.YtjmakbnblpjkhaaGreatDoor
/- Contracts: texts cut and divided into pieces. -/
namespace Go.Proofs.YtjmakbnblpjkhaaGreatDoor
open Go.RowKit Go
variable [GC]
def pieces (s sep : ByteArray) : List ByteArray := (Lib.split s.data.toList sep.data.toList).map bs
end Go.Proofs.YtjmakbnblpjkhaaGreatDoor
/- Contracts: cells as texts; counting up; what a method wants. -/
namespace Go.Proofs.YtjmakbnblpjkhaaGreatDoor
open Go.RowKit Go
variable [GC]
def tEq : ByteArray := ⟨#[61]⟩
def tDash : ByteArray := ⟨#[45]⟩
def tCo : ByteArray := ⟨#[44]⟩
theorem tEq_eq : (⟨#[61]⟩ : ByteArray) = tEq := rfl
theorem tCo_eq : (⟨#[44]⟩ : ByteArray) = tCo := rfl
theorem tEq_size : tEq.size = 1 := rfl
theorem tCo_size : tCo.size = 1 := rfl
def cellT (c : Cell) : ByteArray := c.key ++ tEq ++ bs (dig3 c.val.toNat)
def fmtC (l : List Cell) : ByteArray := if cellsB l = true then (if l.length = 0 then tDash else joinB (l.map cellT) tCo) else noText
theorem cellsB_at {l : List Cell} (h : cellsB l = true) {k : Nat} (hk : k < l.length) : nameB (nth l k).key = true ∧ numB (nth l k).val = true := by
 unfold cellsB at h
 simp only [Bool.and_eq_true] at h
 have := allTo_iff.1 h.2 k hk
 unfold cellB at this
 simp only [Bool.and_eq_true] at this
 exact this.1
theorem cellsB_len {l : List Cell} (h : cellsB l = true) : l.length ≤ 4 := by
 unfold cellsB at h
 simp only [Bool.and_eq_true, decide_eq_true_eq] at h
 exact h.1
theorem numB_nat {n : Int} (h : numB n = true) : ∃ m : Nat, n = m ∧ m < 1000 := by
 unfold numB at h
 simp only [Bool.and_eq_true, decide_eq_true_eq] at h
 exact ⟨n.toNat, by omega, by omega⟩
theorem cellT_size {c : Cell} (h1 : nameB c.key = true) (h2 : numB c.val = true) : (cellT c).size ≤ 12 := by
 obtain ⟨m, e, hm⟩ := numB_nat h2
 have := nameB_le h1
 have hl := dig3_le hm
 unfold cellT
 rw [e, Int.toNat_natCast]
 simp only [ByteArray.size_append, tEq_size, bs_size]
 omega
theorem cells_join {l : List Cell} (h : cellsB l = true) : (joinB (l.map cellT) tCo).size ≤ 52 := by
 have h1 := cellsB_len h
 refine Nat.le_trans (joinB_bound (n := 12) fun k hk => ?_) ?_
 ·have hk : k < l.length := by simpa using hk
  have : nth (l.map cellT) k = cellT (nth l k) := by simp [nth, hk]
  rw [this]
  exact cellT_size (cellsB_at h hk).1 (cellsB_at h hk).2
 ·rw [List.length_map, tCo_size]; omega
theorem fmtC_size (l : List Cell) : (fmtC l).size ≤ 52 := by
 unfold fmtC
 split
 ·rename_i h
  split
  ·decide
  ·exact cells_join h
 ·decide
theorem c_impl_FormatCells [HasPow] (l : List Cell) : Fun Tryz.prog 37 none [encS l] (.str (fmtC l)) [] := by
 refine Fun.ofV vc_impl_FormatCells_ok ty_impl_FormatCells_ok rfl ?_ (fun hfit => ?_)
 ·exact ⟨ty_CellS l, trivial⟩
 unfold vc_impl_FormatCells
 ((first | refine den_call ?_ (c_impl_IsCells l) (trivial) ?_ | refine den_callR ?_ (c_impl_IsCells l) (trivial) ?_ | refine den_call ?_ (.ofR (c_impl_IsCells l)) (trivial) ?_); (focus (simp only [VC.den, E.den, dEq, gsH_nil, and_true]; try exact rfl)); (simp only [cA]))
 refine den_ite (fun h => den_ret ?_) (fun h => ?_)
 ·simp only [E.den, dEq, iEq, sEq] at h ⊢
  rw [fmtC, if_neg (by grind)]; rfl
 simp only [E.den, dEq, iEq, sEq] at h
 have h : cellsB l = true := by grind
 have h4 := cellsB_len h
 have hj := cells_join h
 have hml : (l.map cellT).length ≤ 140737488355328 := by rw [List.length_map]; omega
 refine den_ite (fun h0 => den_ret ?_) (fun h0 => ?_)
 ·simp only [E.den, dEq, iEq, sEq] at h0 ⊢
  rw [fmtC, if_pos h, if_pos (by grind)]; rfl
 simp only [E.den, dEq, iEq, sEq] at h0
 have h0 : l.length ≠ 0 := by grind
 refine den_for l.length (fun k => [encS ((l.take k).map cellT), .int .i64 k]) (fun _ => True) rfl trivial ?_
 intro k hk hI _
 simp only [cA]
 refine den_ite (fun g2 => ?_) (fun g2 => ?_)
 ·simp only [E.den, dEq, iEq, sEq] at g2
  have g2 : k < l.length := by simp at g2; exact g2
  obtain ⟨q1, q2⟩ := cellsB_at h g2
  obtain ⟨m, e, hm⟩ := numB_nat q2
  have q3 := nameB_le q1
  have hl := dig3_le hm
  (refine den_cond (fun hg => ?_) ?_; (focus (simp only [gsH, gE, E.den, dEq, iEq, sEq] at hg ⊢; (try simp only [D.bool.injEq] at hg); (try simp only [D.bool.injEq]); grind)))
  (try (refine den_cond (fun _ => ?_) ?_; (focus (simp only [E.den, dEq, iEq, sEq, row_Cell, cells_Cell, tEq_eq]; refine dec_ok ?_; simp only [ByteArray.size_append, tEq_size]; unfold maxLen; omega))))
  ((first | refine den_call ?_ (c_impl_FormatNumber hm) (trivial) ?_ | refine den_callR ?_ (c_impl_FormatNumber hm) (trivial) ?_ | refine den_call ?_ (.ofR (c_impl_FormatNumber hm)) (trivial) ?_); (focus (simp only [VC.den, E.den, dEq, gsH_nil, and_true, row_Cell, cells_Cell, Int.toNat_natCast, e]; try exact rfl)); (simp only [cA]))
  (try (refine den_cond (fun _ => ?_) ?_; (focus (simp only [E.den, dEq, iEq, sEq, row_Cell, cells_Cell, tEq_eq]; refine dec_ok ?_; simp only [ByteArray.size_append, tEq_size, bs_size]; unfold maxLen; omega))))
  refine den_cond (fun _ => ?_) ?_
  ·simp only [E.den, dEq, iEq, sEq]; simp [maxLen]; omega
  refine den_next g2 ?_ trivial
  simp only [E.den, dEq, iEq, sEq, row_Cell, cells_Cell, tEq_eq]
  rw [ar_add (by omega) (by omega), map_take_succ _ g2]
  simp [encS, cells_str, cellT, e]
 ·simp only [E.den, dEq, iEq, sEq] at g2
  obtain rfl : k = l.length := by simp at g2; omega
  ((first | refine den_call ?_ (c_impl_JoinWith (l.map cellT) tCo hml (by omega)) (trivial) ?_ | refine den_callR ?_ (c_impl_JoinWith (l.map cellT) tCo hml (by omega)) (trivial) ?_ | refine den_call ?_ (.ofR (c_impl_JoinWith (l.map cellT) tCo hml (by omega))) (trivial) ?_); (focus (simp only [VC.den, E.den, dEq, gsH_nil, and_true, tCo_eq, List.take_length]; try exact rfl)); (simp only [cA]))
  refine den_ret ?_
  simp only [E.den, dEq, iEq, sEq]
  rw [fmtC, if_pos h, if_neg h0]
theorem c_spec_FormatCells (l : List Cell) : Fun Tryz.prog 28 none [encS l] (.str (fmtC l)) [] := by
 refine Fun.ofV vc_spec_FormatCells_ok ty_spec_FormatCells_ok rfl ?_ (fun hfit => ?_)
 ·exact ⟨ty_CellS l, trivial⟩
 unfold vc_spec_FormatCells
 ((first | refine den_call ?_ (c_spec_IsCells l) (trivial) ?_ | refine den_callR ?_ (c_spec_IsCells l) (trivial) ?_ | refine den_call ?_ (.ofR (c_spec_IsCells l)) (trivial) ?_); (focus (simp only [VC.den, E.den, dEq, gsH_nil, and_true]; try exact rfl)); (simp only [cA]))
 refine den_ite (fun h => den_ret ?_) (fun h => ?_)
 ·simp only [E.den, dEq, iEq, sEq] at h ⊢
  rw [fmtC, if_neg (by grind)]; rfl
 simp only [E.den, dEq, iEq, sEq] at h
 have h : cellsB l = true := by grind
 have h4 := cellsB_len h
 have hj := cells_join h
 have hml : (l.map cellT).length ≤ 140737488355328 := by rw [List.length_map]; omega
 refine den_for l.length (fun k => [encS ((l.take k).map cellT), .int .i64 k]) (fun _ => True) rfl trivial ?_
 intro k hk hI _
 simp only [cA]
 refine den_ite (fun g2 => ?_) (fun g2 => ?_)
 ·simp only [E.den, dEq, iEq, sEq] at g2
  have g2 : k < l.length := by simp at g2; exact g2
  obtain ⟨q1, q2⟩ := cellsB_at h g2
  obtain ⟨m, e, hm⟩ := numB_nat q2
  have q3 := nameB_le q1
  have hl := dig3_le hm
  (refine den_cond (fun hg => ?_) ?_; (focus (simp only [gsH, gE, E.den, dEq, iEq, sEq] at hg ⊢; (try simp only [D.bool.injEq] at hg); (try simp only [D.bool.injEq]); grind)))
  (try (refine den_cond (fun _ => ?_) ?_; (focus (simp only [E.den, dEq, iEq, sEq, row_Cell, cells_Cell, tEq_eq]; refine dec_ok ?_; simp only [ByteArray.size_append, tEq_size]; unfold maxLen; omega))))
  ((first | refine den_call ?_ (c_spec_FormatNumber hm) (trivial) ?_ | refine den_callR ?_ (c_spec_FormatNumber hm) (trivial) ?_ | refine den_call ?_ (.ofR (c_spec_FormatNumber hm)) (trivial) ?_); (focus (simp only [VC.den, E.den, dEq, gsH_nil, and_true, row_Cell, cells_Cell, Int.toNat_natCast, e]; try exact rfl)); (simp only [cA]))
  (try (refine den_cond (fun _ => ?_) ?_; (focus (simp only [E.den, dEq, iEq, sEq, row_Cell, cells_Cell, tEq_eq]; refine dec_ok ?_; simp only [ByteArray.size_append, tEq_size, bs_size]; unfold maxLen; omega))))
  refine den_cond (fun _ => ?_) ?_
  ·simp only [E.den, dEq, iEq, sEq]; simp [maxLen]; omega
  refine den_next g2 ?_ trivial
  simp only [E.den, dEq, iEq, sEq, row_Cell, cells_Cell, tEq_eq]
  rw [ar_add (by omega) (by omega), map_take_succ _ g2]
  simp [encS, cells_str, cellT, e]
 ·simp only [E.den, dEq, iEq, sEq] at g2
  obtain rfl : k = l.length := by simp at g2; omega
  refine den_ite (fun g3 => den_ret ?_) (fun g3 => ?_)
  ·simp only [E.den, dEq, iEq, sEq] at g3 ⊢
   have g3 : l.length = 0 := by simpa using g3
   rw [fmtC, if_pos h, if_pos g3]; rfl
  ·simp only [E.den, dEq, iEq, sEq] at g3
   have g3 : l.length ≠ 0 := by simpa using g3
   ((first | refine den_call ?_ (c_spec_JoinWith (l.map cellT) tCo hml (by omega)) (trivial) ?_ | refine den_callR ?_ (c_spec_JoinWith (l.map cellT) tCo hml (by omega)) (trivial) ?_ | refine den_call ?_ (.ofR (c_spec_JoinWith (l.map cellT) tCo hml (by omega))) (trivial) ?_); (focus (simp only [VC.den, E.den, dEq, gsH_nil, and_true, tCo_eq, List.take_length]; try exact rfl)); (simp only [cA]))
   refine den_ret ?_
   simp only [E.den, dEq, iEq, sEq]
   rw [fmtC, if_pos h, if_neg g3]
end Go.Proofs.YtjmakbnblpjkhaaGreatDoor
/- Contracts: what is told about an entry of a host, by the program and by the reference. -/
namespace Go.Proofs.YtjmakbnblpjkhaaGreatDoor
open Go.RowKit Go
variable [GC]
def whereT (h : Host) (s : ByteArray) : ByteArray := if hasB h.up s then ⟨#[117, 112]⟩ else if hasB h.shut s then ⟨#[115, 104, 117, 116]⟩ else ⟨#[100, 111, 119, 110]⟩
def howT (c : Core) : ByteArray := if c.on then ⟨#[111, 110]⟩ else if c.broken then ⟨#[98, 114, 111, 107, 101, 110]⟩ else ⟨#[111, 102, 102]⟩
def lineT (h : Host) (s : ByteArray) : ByteArray := if hostB h = true ∧ 0 ≤ findI h.entries s then joinB [s, whereT h s, howT (nth h.parts (findI h.entries s).toNat).core, fmtC (nth h.parts (findI h.entries s).toNat).core.cells] tSp else noText
theorem joinB_four (a b c d : ByteArray) : joinB [a, b, c, d] tSp = a ++ tSp ++ b ++ tSp ++ c ++ tSp ++ d := by
 unfold joinB
 simp [Lib.join_cons, Lib.joinTail, tSp]
 apply ByteArray.ext
 simp [ByteArray.data_append]
theorem four_le (a b c d : ByteArray) : [a, b, c, d].length ≤ 140737488355328 := by simp
theorem whereT_size (h : Host) (s : ByteArray) : (whereT h s).size ≤ 4 := by
 unfold whereT
 repeat' split
 all_goals decide
theorem howT_size (c : Core) : (howT c).size ≤ 6 := by
 unfold howT
 repeat' split
 all_goals decide
theorem line_size {h : Host} {s t : ByteArray} {c : Core} {l : List Cell} (hs : s.size ≤ 1048576) (ht : t.size ≤ 4) : (joinB [s, t, howT c, fmtC l] tSp).size ≤ 140737488355328 := by
 have := howT_size c
 have := fmtC_size l
 rw [joinB_four]
 simp only [ByteArray.size_append]
 have : tSp.size = 1 := rfl
 omega
theorem host_line {h : Host} {s : ByteArray} (hb : hostB h = true) (h0 : 0 ≤ findI h.entries s) : ∃ k : Nat, findI h.entries s = k ∧ k < h.parts.length := by
 obtain ⟨i, hi, hlt, _⟩ := findI_some h0
 unfold hostB at hb
 simp only [Bool.and_eq_true, decide_eq_true_eq] at hb
 exact ⟨i, hi, by omega⟩
set_option maxHeartbeats 8000000 in
theorem c_impl_HostLine [HasPow] (h : Host) (s : ByteArray) (hl : h.entries.length ≤ 1048576) (hp : ∀ i, i < h.parts.length → (nth h.parts i).layers.length ≤ 1048576) (hs : s.size ≤ 1048576) : Fun Tryz.prog 9 none [enc h, .str s] (.str (lineT h s)) [] := by
 refine Fun.ofV vc_impl_HostLine_ok ty_impl_HostLine_ok rfl ?_ (fun hfit => ?_)
 ·exact ⟨ty_Host h, trivial, trivial⟩
 unfold vc_impl_HostLine
 ((first | refine den_call ?_ (c_impl_FindEntry h.entries s) (rfl) ?_ | refine den_callR ?_ (c_impl_FindEntry h.entries s) (rfl) ?_ | refine den_call ?_ (.ofR (c_impl_FindEntry h.entries s)) (rfl) ?_); (focus (simp only [VC.den, E.den, dEq, gsH_nil, and_true, cells_Host]; try exact rfl)); (simp only [cA]))
 ((first | refine den_call ?_ (c_impl_IsHost h hl hp) (trivial) ?_ | refine den_callR ?_ (c_impl_IsHost h hl hp) (trivial) ?_ | refine den_call ?_ (.ofR (c_impl_IsHost h hl hp)) (trivial) ?_); (focus (simp only [VC.den, E.den, dEq, gsH_nil, and_true]; try exact rfl)); (simp only [cA]))
 refine den_ite (fun g => den_ret ?_) (fun g => ?_)
 ·simp only [E.den, dEq, iEq, sEq] at g ⊢
  have g : ¬ (hostB h = true ∧ 0 ≤ findI h.entries s) := by
   rintro ⟨g1, g2⟩
   rw [g1] at g
   simp at g
   omega
  rw [lineT, if_neg g]; rfl
 simp only [E.den, dEq, iEq, sEq] at g
 have g : hostB h = true ∧ 0 ≤ findI h.entries s := by
  simp only [Bool.or_eq_false_iff, Bool.not_eq_false', decide_eq_false_iff_not] at g
  exact ⟨g.1, by omega⟩
 obtain ⟨k, hk, hkl⟩ := host_line g.1 g.2
 have hL : lineT h s = joinB [s, whereT h s, howT (nth h.parts k).core, fmtC (nth h.parts k).core.cells] tSp := by
  rw [lineT, if_pos g, hk, Int.toNat_natCast]
 rw [hL, hk]
 ((first | refine den_call ?_ (c_impl_hasText h.up s) (trivial) ?_ | refine den_callR ?_ (c_impl_hasText h.up s) (trivial) ?_ | refine den_call ?_ (.ofR (c_impl_hasText h.up s)) (trivial) ?_); (focus (simp only [VC.den, E.den, dEq, gsH_nil, and_true, cells_Host]; try exact rfl)); (simp only [cA]))
 refine den_ite (fun g1 => ?_) (fun g1 => ?_)
 ·simp only [E.den, dEq, iEq, sEq] at g1
  refine den_cond (fun _ => ?_) ?_
  ·simp only [E.den, dEq, iEq, sEq, cells_Host]; simp; omega
  refine den_ite (fun q1 => ?_) (fun q1 => ?_)
  ·simp only [E.den, dEq, iEq, sEq, cells_Host, row_Part, Int.toNat_natCast, cells_Part, cells_Core, tSp_eq] at q1
   have hw : whereT h s = ⟨#[117, 112]⟩ := by unfold whereT; rw [if_pos g1]
   have hh : howT (nth h.parts k).core = ⟨#[111, 110]⟩ := by unfold howT; rw [if_pos q1]
   have hz := line_size (h := h) (t := whereT h s) (c := (nth h.parts k).core) (l := (nth h.parts k).core.cells) hs (whereT_size h s)
   ((first | refine den_call ?_ (c_impl_FormatCells (nth h.parts k).core.cells) (trivial) ?_ | refine den_callR ?_ (c_impl_FormatCells (nth h.parts k).core.cells) (trivial) ?_ | refine den_call ?_ (.ofR (c_impl_FormatCells (nth h.parts k).core.cells)) (trivial) ?_); (focus (simp only [VC.den, E.den, dEq, gsH_nil, and_true, cells_Host, row_Part, Int.toNat_natCast, cells_Part, cells_Core, tSp_eq]; try exact rfl)); (simp only [cA]))
   ((first | refine den_call ?_ (c_impl_JoinWith [s, whereT h s, howT (nth h.parts k).core, fmtC (nth h.parts k).core.cells] tSp (four_le _ _ _ _) hz) (trivial) ?_ | refine den_callR ?_ (c_impl_JoinWith [s, whereT h s, howT (nth h.parts k).core, fmtC (nth h.parts k).core.cells] tSp (four_le _ _ _ _) hz) (trivial) ?_ | refine den_call ?_ (.ofR (c_impl_JoinWith [s, whereT h s, howT (nth h.parts k).core, fmtC (nth h.parts k).core.cells] tSp (four_le _ _ _ _) hz)) (trivial) ?_); (focus (simp only [VC.den, E.den, dEq, gsH_nil, and_true, hw, hh, cells_Host, row_Part, Int.toNat_natCast, cells_Part, cells_Core, tSp_eq]; try exact rfl)); (simp only [cA]))
   exact den_ret rfl
  simp only [E.den, dEq, iEq, sEq, cells_Host, row_Part, Int.toNat_natCast, cells_Part, cells_Core, tSp_eq] at q1
  refine den_ite (fun q2 => ?_) (fun q2 => ?_)
  ·simp only [E.den, dEq, iEq, sEq, cells_Host, row_Part, Int.toNat_natCast, cells_Part, cells_Core, tSp_eq] at q2
   have hw : whereT h s = ⟨#[117, 112]⟩ := by unfold whereT; rw [if_pos g1]
   have hh : howT (nth h.parts k).core = ⟨#[98, 114, 111, 107, 101, 110]⟩ := by unfold howT; rw [if_neg (by rw [q1]; simp), if_pos q2]
   have hz := line_size (h := h) (t := whereT h s) (c := (nth h.parts k).core) (l := (nth h.parts k).core.cells) hs (whereT_size h s)
   ((first | refine den_call ?_ (c_impl_FormatCells (nth h.parts k).core.cells) (trivial) ?_ | refine den_callR ?_ (c_impl_FormatCells (nth h.parts k).core.cells) (trivial) ?_ | refine den_call ?_ (.ofR (c_impl_FormatCells (nth h.parts k).core.cells)) (trivial) ?_); (focus (simp only [VC.den, E.den, dEq, gsH_nil, and_true, cells_Host, row_Part, Int.toNat_natCast, cells_Part, cells_Core, tSp_eq]; try exact rfl)); (simp only [cA]))
   ((first | refine den_call ?_ (c_impl_JoinWith [s, whereT h s, howT (nth h.parts k).core, fmtC (nth h.parts k).core.cells] tSp (four_le _ _ _ _) hz) (trivial) ?_ | refine den_callR ?_ (c_impl_JoinWith [s, whereT h s, howT (nth h.parts k).core, fmtC (nth h.parts k).core.cells] tSp (four_le _ _ _ _) hz) (trivial) ?_ | refine den_call ?_ (.ofR (c_impl_JoinWith [s, whereT h s, howT (nth h.parts k).core, fmtC (nth h.parts k).core.cells] tSp (four_le _ _ _ _) hz)) (trivial) ?_); (focus (simp only [VC.den, E.den, dEq, gsH_nil, and_true, hw, hh, cells_Host, row_Part, Int.toNat_natCast, cells_Part, cells_Core, tSp_eq]; try exact rfl)); (simp only [cA]))
   exact den_ret rfl
  ·simp only [E.den, dEq, iEq, sEq, cells_Host, row_Part, Int.toNat_natCast, cells_Part, cells_Core, tSp_eq] at q2
   have hw : whereT h s = ⟨#[117, 112]⟩ := by unfold whereT; rw [if_pos g1]
   have hh : howT (nth h.parts k).core = ⟨#[111, 102, 102]⟩ := by unfold howT; rw [if_neg (by rw [q1]; simp), if_neg (by rw [q2]; simp)]
   have hz := line_size (h := h) (t := whereT h s) (c := (nth h.parts k).core) (l := (nth h.parts k).core.cells) hs (whereT_size h s)
   ((first | refine den_call ?_ (c_impl_FormatCells (nth h.parts k).core.cells) (trivial) ?_ | refine den_callR ?_ (c_impl_FormatCells (nth h.parts k).core.cells) (trivial) ?_ | refine den_call ?_ (.ofR (c_impl_FormatCells (nth h.parts k).core.cells)) (trivial) ?_); (focus (simp only [VC.den, E.den, dEq, gsH_nil, and_true, cells_Host, row_Part, Int.toNat_natCast, cells_Part, cells_Core, tSp_eq]; try exact rfl)); (simp only [cA]))
   ((first | refine den_call ?_ (c_impl_JoinWith [s, whereT h s, howT (nth h.parts k).core, fmtC (nth h.parts k).core.cells] tSp (four_le _ _ _ _) hz) (trivial) ?_ | refine den_callR ?_ (c_impl_JoinWith [s, whereT h s, howT (nth h.parts k).core, fmtC (nth h.parts k).core.cells] tSp (four_le _ _ _ _) hz) (trivial) ?_ | refine den_call ?_ (.ofR (c_impl_JoinWith [s, whereT h s, howT (nth h.parts k).core, fmtC (nth h.parts k).core.cells] tSp (four_le _ _ _ _) hz)) (trivial) ?_); (focus (simp only [VC.den, E.den, dEq, gsH_nil, and_true, hw, hh, cells_Host, row_Part, Int.toNat_natCast, cells_Part, cells_Core, tSp_eq]; try exact rfl)); (simp only [cA]))
   exact den_ret rfl
 simp only [E.den, dEq, iEq, sEq] at g1
 ((first | refine den_call ?_ (c_impl_hasText h.shut s) (trivial) ?_ | refine den_callR ?_ (c_impl_hasText h.shut s) (trivial) ?_ | refine den_call ?_ (.ofR (c_impl_hasText h.shut s)) (trivial) ?_); (focus (simp only [VC.den, E.den, dEq, gsH_nil, and_true, cells_Host]; try exact rfl)); (simp only [cA]))
 refine den_ite (fun g2 => ?_) (fun g2 => ?_)
 ·simp only [E.den, dEq, iEq, sEq] at g2
  refine den_cond (fun _ => ?_) ?_
  ·simp only [E.den, dEq, iEq, sEq, cells_Host]; simp; omega
  refine den_ite (fun q1 => ?_) (fun q1 => ?_)
  ·simp only [E.den, dEq, iEq, sEq, cells_Host, row_Part, Int.toNat_natCast, cells_Part, cells_Core, tSp_eq] at q1
   have hw : whereT h s = ⟨#[115, 104, 117, 116]⟩ := by unfold whereT; rw [if_neg (by rw [g1]; simp), if_pos g2]
   have hh : howT (nth h.parts k).core = ⟨#[111, 110]⟩ := by unfold howT; rw [if_pos q1]
   have hz := line_size (h := h) (t := whereT h s) (c := (nth h.parts k).core) (l := (nth h.parts k).core.cells) hs (whereT_size h s)
   ((first | refine den_call ?_ (c_impl_FormatCells (nth h.parts k).core.cells) (trivial) ?_ | refine den_callR ?_ (c_impl_FormatCells (nth h.parts k).core.cells) (trivial) ?_ | refine den_call ?_ (.ofR (c_impl_FormatCells (nth h.parts k).core.cells)) (trivial) ?_); (focus (simp only [VC.den, E.den, dEq, gsH_nil, and_true, cells_Host, row_Part, Int.toNat_natCast, cells_Part, cells_Core, tSp_eq]; try exact rfl)); (simp only [cA]))
   ((first | refine den_call ?_ (c_impl_JoinWith [s, whereT h s, howT (nth h.parts k).core, fmtC (nth h.parts k).core.cells] tSp (four_le _ _ _ _) hz) (trivial) ?_ | refine den_callR ?_ (c_impl_JoinWith [s, whereT h s, howT (nth h.parts k).core, fmtC (nth h.parts k).core.cells] tSp (four_le _ _ _ _) hz) (trivial) ?_ | refine den_call ?_ (.ofR (c_impl_JoinWith [s, whereT h s, howT (nth h.parts k).core, fmtC (nth h.parts k).core.cells] tSp (four_le _ _ _ _) hz)) (trivial) ?_); (focus (simp only [VC.den, E.den, dEq, gsH_nil, and_true, hw, hh, cells_Host, row_Part, Int.toNat_natCast, cells_Part, cells_Core, tSp_eq]; try exact rfl)); (simp only [cA]))
   exact den_ret rfl
  simp only [E.den, dEq, iEq, sEq, cells_Host, row_Part, Int.toNat_natCast, cells_Part, cells_Core, tSp_eq] at q1
  refine den_ite (fun q2 => ?_) (fun q2 => ?_)
  ·simp only [E.den, dEq, iEq, sEq, cells_Host, row_Part, Int.toNat_natCast, cells_Part, cells_Core, tSp_eq] at q2
   have hw : whereT h s = ⟨#[115, 104, 117, 116]⟩ := by unfold whereT; rw [if_neg (by rw [g1]; simp), if_pos g2]
   have hh : howT (nth h.parts k).core = ⟨#[98, 114, 111, 107, 101, 110]⟩ := by unfold howT; rw [if_neg (by rw [q1]; simp), if_pos q2]
   have hz := line_size (h := h) (t := whereT h s) (c := (nth h.parts k).core) (l := (nth h.parts k).core.cells) hs (whereT_size h s)
   ((first | refine den_call ?_ (c_impl_FormatCells (nth h.parts k).core.cells) (trivial) ?_ | refine den_callR ?_ (c_impl_FormatCells (nth h.parts k).core.cells) (trivial) ?_ | refine den_call ?_ (.ofR (c_impl_FormatCells (nth h.parts k).core.cells)) (trivial) ?_); (focus (simp only [VC.den, E.den, dEq, gsH_nil, and_true, cells_Host, row_Part, Int.toNat_natCast, cells_Part, cells_Core, tSp_eq]; try exact rfl)); (simp only [cA]))
   ((first | refine den_call ?_ (c_impl_JoinWith [s, whereT h s, howT (nth h.parts k).core, fmtC (nth h.parts k).core.cells] tSp (four_le _ _ _ _) hz) (trivial) ?_ | refine den_callR ?_ (c_impl_JoinWith [s, whereT h s, howT (nth h.parts k).core, fmtC (nth h.parts k).core.cells] tSp (four_le _ _ _ _) hz) (trivial) ?_ | refine den_call ?_ (.ofR (c_impl_JoinWith [s, whereT h s, howT (nth h.parts k).core, fmtC (nth h.parts k).core.cells] tSp (four_le _ _ _ _) hz)) (trivial) ?_); (focus (simp only [VC.den, E.den, dEq, gsH_nil, and_true, hw, hh, cells_Host, row_Part, Int.toNat_natCast, cells_Part, cells_Core, tSp_eq]; try exact rfl)); (simp only [cA]))
   exact den_ret rfl
  ·simp only [E.den, dEq, iEq, sEq, cells_Host, row_Part, Int.toNat_natCast, cells_Part, cells_Core, tSp_eq] at q2
   have hw : whereT h s = ⟨#[115, 104, 117, 116]⟩ := by unfold whereT; rw [if_neg (by rw [g1]; simp), if_pos g2]
   have hh : howT (nth h.parts k).core = ⟨#[111, 102, 102]⟩ := by unfold howT; rw [if_neg (by rw [q1]; simp), if_neg (by rw [q2]; simp)]
   have hz := line_size (h := h) (t := whereT h s) (c := (nth h.parts k).core) (l := (nth h.parts k).core.cells) hs (whereT_size h s)
   ((first | refine den_call ?_ (c_impl_FormatCells (nth h.parts k).core.cells) (trivial) ?_ | refine den_callR ?_ (c_impl_FormatCells (nth h.parts k).core.cells) (trivial) ?_ | refine den_call ?_ (.ofR (c_impl_FormatCells (nth h.parts k).core.cells)) (trivial) ?_); (focus (simp only [VC.den, E.den, dEq, gsH_nil, and_true, cells_Host, row_Part, Int.toNat_natCast, cells_Part, cells_Core, tSp_eq]; try exact rfl)); (simp only [cA]))
   ((first | refine den_call ?_ (c_impl_JoinWith [s, whereT h s, howT (nth h.parts k).core, fmtC (nth h.parts k).core.cells] tSp (four_le _ _ _ _) hz) (trivial) ?_ | refine den_callR ?_ (c_impl_JoinWith [s, whereT h s, howT (nth h.parts k).core, fmtC (nth h.parts k).core.cells] tSp (four_le _ _ _ _) hz) (trivial) ?_ | refine den_call ?_ (.ofR (c_impl_JoinWith [s, whereT h s, howT (nth h.parts k).core, fmtC (nth h.parts k).core.cells] tSp (four_le _ _ _ _) hz)) (trivial) ?_); (focus (simp only [VC.den, E.den, dEq, gsH_nil, and_true, hw, hh, cells_Host, row_Part, Int.toNat_natCast, cells_Part, cells_Core, tSp_eq]; try exact rfl)); (simp only [cA]))
   exact den_ret rfl
 simp only [E.den, dEq, iEq, sEq] at g2
 refine den_cond (fun _ => ?_) ?_
 ·simp only [E.den, dEq, iEq, sEq, cells_Host]; simp; omega
 refine den_ite (fun q1 => ?_) (fun q1 => ?_)
 ·simp only [E.den, dEq, iEq, sEq, cells_Host, row_Part, Int.toNat_natCast, cells_Part, cells_Core, tSp_eq] at q1
  have hw : whereT h s = ⟨#[100, 111, 119, 110]⟩ := by unfold whereT; rw [if_neg (by rw [g1]; simp), if_neg (by rw [g2]; simp)]
  have hh : howT (nth h.parts k).core = ⟨#[111, 110]⟩ := by unfold howT; rw [if_pos q1]
  have hz := line_size (h := h) (t := whereT h s) (c := (nth h.parts k).core) (l := (nth h.parts k).core.cells) hs (whereT_size h s)
  ((first | refine den_call ?_ (c_impl_FormatCells (nth h.parts k).core.cells) (trivial) ?_ | refine den_callR ?_ (c_impl_FormatCells (nth h.parts k).core.cells) (trivial) ?_ | refine den_call ?_ (.ofR (c_impl_FormatCells (nth h.parts k).core.cells)) (trivial) ?_); (focus (simp only [VC.den, E.den, dEq, gsH_nil, and_true, cells_Host, row_Part, Int.toNat_natCast, cells_Part, cells_Core, tSp_eq]; try exact rfl)); (simp only [cA]))
  ((first | refine den_call ?_ (c_impl_JoinWith [s, whereT h s, howT (nth h.parts k).core, fmtC (nth h.parts k).core.cells] tSp (four_le _ _ _ _) hz) (trivial) ?_ | refine den_callR ?_ (c_impl_JoinWith [s, whereT h s, howT (nth h.parts k).core, fmtC (nth h.parts k).core.cells] tSp (four_le _ _ _ _) hz) (trivial) ?_ | refine den_call ?_ (.ofR (c_impl_JoinWith [s, whereT h s, howT (nth h.parts k).core, fmtC (nth h.parts k).core.cells] tSp (four_le _ _ _ _) hz)) (trivial) ?_); (focus (simp only [VC.den, E.den, dEq, gsH_nil, and_true, hw, hh, cells_Host, row_Part, Int.toNat_natCast, cells_Part, cells_Core, tSp_eq]; try exact rfl)); (simp only [cA]))
  exact den_ret rfl
 simp only [E.den, dEq, iEq, sEq, cells_Host, row_Part, Int.toNat_natCast, cells_Part, cells_Core, tSp_eq] at q1
 refine den_ite (fun q2 => ?_) (fun q2 => ?_)
 ·simp only [E.den, dEq, iEq, sEq, cells_Host, row_Part, Int.toNat_natCast, cells_Part, cells_Core, tSp_eq] at q2
  have hw : whereT h s = ⟨#[100, 111, 119, 110]⟩ := by unfold whereT; rw [if_neg (by rw [g1]; simp), if_neg (by rw [g2]; simp)]
  have hh : howT (nth h.parts k).core = ⟨#[98, 114, 111, 107, 101, 110]⟩ := by unfold howT; rw [if_neg (by rw [q1]; simp), if_pos q2]
  have hz := line_size (h := h) (t := whereT h s) (c := (nth h.parts k).core) (l := (nth h.parts k).core.cells) hs (whereT_size h s)
  ((first | refine den_call ?_ (c_impl_FormatCells (nth h.parts k).core.cells) (trivial) ?_ | refine den_callR ?_ (c_impl_FormatCells (nth h.parts k).core.cells) (trivial) ?_ | refine den_call ?_ (.ofR (c_impl_FormatCells (nth h.parts k).core.cells)) (trivial) ?_); (focus (simp only [VC.den, E.den, dEq, gsH_nil, and_true, cells_Host, row_Part, Int.toNat_natCast, cells_Part, cells_Core, tSp_eq]; try exact rfl)); (simp only [cA]))
  ((first | refine den_call ?_ (c_impl_JoinWith [s, whereT h s, howT (nth h.parts k).core, fmtC (nth h.parts k).core.cells] tSp (four_le _ _ _ _) hz) (trivial) ?_ | refine den_callR ?_ (c_impl_JoinWith [s, whereT h s, howT (nth h.parts k).core, fmtC (nth h.parts k).core.cells] tSp (four_le _ _ _ _) hz) (trivial) ?_ | refine den_call ?_ (.ofR (c_impl_JoinWith [s, whereT h s, howT (nth h.parts k).core, fmtC (nth h.parts k).core.cells] tSp (four_le _ _ _ _) hz)) (trivial) ?_); (focus (simp only [VC.den, E.den, dEq, gsH_nil, and_true, hw, hh, cells_Host, row_Part, Int.toNat_natCast, cells_Part, cells_Core, tSp_eq]; try exact rfl)); (simp only [cA]))
  exact den_ret rfl
 ·simp only [E.den, dEq, iEq, sEq, cells_Host, row_Part, Int.toNat_natCast, cells_Part, cells_Core, tSp_eq] at q2
  have hw : whereT h s = ⟨#[100, 111, 119, 110]⟩ := by unfold whereT; rw [if_neg (by rw [g1]; simp), if_neg (by rw [g2]; simp)]
  have hh : howT (nth h.parts k).core = ⟨#[111, 102, 102]⟩ := by unfold howT; rw [if_neg (by rw [q1]; simp), if_neg (by rw [q2]; simp)]
  have hz := line_size (h := h) (t := whereT h s) (c := (nth h.parts k).core) (l := (nth h.parts k).core.cells) hs (whereT_size h s)
  ((first | refine den_call ?_ (c_impl_FormatCells (nth h.parts k).core.cells) (trivial) ?_ | refine den_callR ?_ (c_impl_FormatCells (nth h.parts k).core.cells) (trivial) ?_ | refine den_call ?_ (.ofR (c_impl_FormatCells (nth h.parts k).core.cells)) (trivial) ?_); (focus (simp only [VC.den, E.den, dEq, gsH_nil, and_true, cells_Host, row_Part, Int.toNat_natCast, cells_Part, cells_Core, tSp_eq]; try exact rfl)); (simp only [cA]))
  ((first | refine den_call ?_ (c_impl_JoinWith [s, whereT h s, howT (nth h.parts k).core, fmtC (nth h.parts k).core.cells] tSp (four_le _ _ _ _) hz) (trivial) ?_ | refine den_callR ?_ (c_impl_JoinWith [s, whereT h s, howT (nth h.parts k).core, fmtC (nth h.parts k).core.cells] tSp (four_le _ _ _ _) hz) (trivial) ?_ | refine den_call ?_ (.ofR (c_impl_JoinWith [s, whereT h s, howT (nth h.parts k).core, fmtC (nth h.parts k).core.cells] tSp (four_le _ _ _ _) hz)) (trivial) ?_); (focus (simp only [VC.den, E.den, dEq, gsH_nil, and_true, hw, hh, cells_Host, row_Part, Int.toNat_natCast, cells_Part, cells_Core, tSp_eq]; try exact rfl)); (simp only [cA]))
  exact den_ret rfl
set_option maxHeartbeats 8000000 in
theorem c_spec_HostLine (h : Host) (s : ByteArray) (hl : h.entries.length ≤ 1048576) (hp : ∀ i, i < h.parts.length → (nth h.parts i).layers.length ≤ 1048576) (hul : h.up.length ≤ 4294967296) (hs : s.size ≤ 1048576) : Fun Tryz.prog 7 none [enc h, .str s] (.str (lineT h s)) [] := by
 refine Fun.ofV vc_spec_HostLine_ok ty_spec_HostLine_ok rfl ?_ (fun hfit => ?_)
 ·exact ⟨ty_Host h, trivial, trivial⟩
 unfold vc_spec_HostLine
 ((first | refine den_call ?_ (c_spec_FindEntry h.entries s) (rfl) ?_ | refine den_callR ?_ (c_spec_FindEntry h.entries s) (rfl) ?_ | refine den_call ?_ (.ofR (c_spec_FindEntry h.entries s)) (rfl) ?_); (focus (simp only [VC.den, E.den, dEq, gsH_nil, and_true, cells_Host]; try exact rfl)); (simp only [cA]))
 ((first | refine den_call ?_ (c_spec_IsHost h hl hp hul) (trivial) ?_ | refine den_callR ?_ (c_spec_IsHost h hl hp hul) (trivial) ?_ | refine den_call ?_ (.ofR (c_spec_IsHost h hl hp hul)) (trivial) ?_); (focus (simp only [VC.den, E.den, dEq, gsH_nil, and_true]; try exact rfl)); (simp only [cA]))
 refine den_ite (fun g => den_ret ?_) (fun g => ?_)
 ·simp only [E.den, dEq, iEq, sEq] at g ⊢
  have g : ¬ (hostB h = true ∧ 0 ≤ findI h.entries s) := by
   rintro ⟨g1, g2⟩
   rw [g1] at g
   simp at g
   omega
  rw [lineT, if_neg g]; rfl
 simp only [E.den, dEq, iEq, sEq] at g
 have g : hostB h = true ∧ 0 ≤ findI h.entries s := by
  simp only [Bool.or_eq_false_iff, Bool.not_eq_false', decide_eq_false_iff_not] at g
  exact ⟨g.1, by omega⟩
 obtain ⟨k, hk, hkl⟩ := host_line g.1 g.2
 have hL : lineT h s = joinB [s, whereT h s, howT (nth h.parts k).core, fmtC (nth h.parts k).core.cells] tSp := by
  rw [lineT, if_pos g, hk, Int.toNat_natCast]
 have hfz := fmtC_size (nth h.parts k).core.cells
 rw [hL, hk, joinB_four]
 refine den_cond (fun _ => ?_) ?_
 ·simp only [E.den, dEq, iEq, sEq, cells_Host]; simp; omega
 refine den_cond (fun _ => ?_) ?_
 ·simp only [E.den, dEq, iEq, sEq]; refine dec_ok ?_; unfold maxLen; have : (⟨#[32, 100, 111, 119, 110]⟩ : ByteArray).size = 5 := rfl; omega
 ((first | refine den_call ?_ (c_spec_l1HasText h.up s) (trivial) ?_ | refine den_callR ?_ (c_spec_l1HasText h.up s) (trivial) ?_ | refine den_call ?_ (.ofR (c_spec_l1HasText h.up s)) (trivial) ?_); (focus (simp only [VC.den, E.den, dEq, gsH_nil, and_true, cells_Host]; try exact rfl)); (simp only [cA]))
 refine den_ite (fun g1 => ?_) (fun g1 => ?_)
 ·simp only [E.den, dEq, iEq, sEq] at g1
  refine den_cond (fun _ => ?_) ?_
  ·simp only [E.den, dEq, iEq, sEq]; refine dec_ok ?_; unfold maxLen; have : (⟨#[32, 117, 112]⟩ : ByteArray).size = 3 := rfl; omega
  refine den_ite (fun q1 => ?_) (fun q1 => ?_)
  ·simp only [E.den, dEq, iEq, sEq, cells_Host, row_Part, Int.toNat_natCast, cells_Part, cells_Core, tSp_eq] at q1
   have hw : whereT h s = ⟨#[117, 112]⟩ := by unfold whereT; rw [if_pos g1]
   have hh : howT (nth h.parts k).core = ⟨#[111, 110]⟩ := by unfold howT; rw [if_pos q1]
   have e1 : (⟨#[32, 117, 112]⟩ : ByteArray).size = 3 := rfl
   have e2 : (⟨#[111, 110]⟩ : ByteArray).size = 2 := rfl
   have e3 : (⟨#[32]⟩ : ByteArray).size = 1 := rfl
   iterate 3 (refine den_cond (fun _ => ?_) ?_; (focus (simp only [E.den, dEq, iEq, sEq, cells_Host, row_Part, Int.toNat_natCast, cells_Part, cells_Core]; refine dec_ok ?_; simp only [ByteArray.size_append, e1, e2, e3]; unfold maxLen; omega)))
   ((first | refine den_call ?_ (c_spec_FormatCells (nth h.parts k).core.cells) (trivial) ?_ | refine den_callR ?_ (c_spec_FormatCells (nth h.parts k).core.cells) (trivial) ?_ | refine den_call ?_ (.ofR (c_spec_FormatCells (nth h.parts k).core.cells)) (trivial) ?_); (focus (simp only [VC.den, E.den, dEq, gsH_nil, and_true, cells_Host, row_Part, Int.toNat_natCast, cells_Part, cells_Core, tSp_eq]; try exact rfl)); (simp only [cA]))
   (refine den_cond (fun _ => ?_) ?_; (focus (simp only [E.den, dEq, iEq, sEq, cells_Host, row_Part, Int.toNat_natCast, cells_Part, cells_Core]; refine dec_ok ?_; simp only [ByteArray.size_append, e1, e2, e3]; unfold maxLen; omega)))
   refine den_ret ?_
   simp only [E.den, dEq, iEq, sEq]
   rw [hw, hh, show (⟨#[32, 117, 112]⟩ : ByteArray) = tSp ++ ⟨#[117, 112]⟩ from rfl, show (⟨#[32]⟩ : ByteArray) = tSp from rfl]
   simp only [ByteArray.append_assoc]
  simp only [E.den, dEq, iEq, sEq, cells_Host, row_Part, Int.toNat_natCast, cells_Part, cells_Core, tSp_eq] at q1
  refine den_ite (fun q2 => ?_) (fun q2 => ?_)
  ·simp only [E.den, dEq, iEq, sEq, cells_Host, row_Part, Int.toNat_natCast, cells_Part, cells_Core, tSp_eq] at q2
   have hw : whereT h s = ⟨#[117, 112]⟩ := by unfold whereT; rw [if_pos g1]
   have hh : howT (nth h.parts k).core = ⟨#[98, 114, 111, 107, 101, 110]⟩ := by unfold howT; rw [if_neg (by rw [q1]; simp), if_pos q2]
   have e1 : (⟨#[32, 117, 112]⟩ : ByteArray).size = 3 := rfl
   have e2 : (⟨#[98, 114, 111, 107, 101, 110]⟩ : ByteArray).size = 6 := rfl
   have e3 : (⟨#[32]⟩ : ByteArray).size = 1 := rfl
   iterate 3 (refine den_cond (fun _ => ?_) ?_; (focus (simp only [E.den, dEq, iEq, sEq, cells_Host, row_Part, Int.toNat_natCast, cells_Part, cells_Core]; refine dec_ok ?_; simp only [ByteArray.size_append, e1, e2, e3]; unfold maxLen; omega)))
   ((first | refine den_call ?_ (c_spec_FormatCells (nth h.parts k).core.cells) (trivial) ?_ | refine den_callR ?_ (c_spec_FormatCells (nth h.parts k).core.cells) (trivial) ?_ | refine den_call ?_ (.ofR (c_spec_FormatCells (nth h.parts k).core.cells)) (trivial) ?_); (focus (simp only [VC.den, E.den, dEq, gsH_nil, and_true, cells_Host, row_Part, Int.toNat_natCast, cells_Part, cells_Core, tSp_eq]; try exact rfl)); (simp only [cA]))
   (refine den_cond (fun _ => ?_) ?_; (focus (simp only [E.den, dEq, iEq, sEq, cells_Host, row_Part, Int.toNat_natCast, cells_Part, cells_Core]; refine dec_ok ?_; simp only [ByteArray.size_append, e1, e2, e3]; unfold maxLen; omega)))
   refine den_ret ?_
   simp only [E.den, dEq, iEq, sEq]
   rw [hw, hh, show (⟨#[32, 117, 112]⟩ : ByteArray) = tSp ++ ⟨#[117, 112]⟩ from rfl, show (⟨#[32]⟩ : ByteArray) = tSp from rfl]
   simp only [ByteArray.append_assoc]
  ·simp only [E.den, dEq, iEq, sEq, cells_Host, row_Part, Int.toNat_natCast, cells_Part, cells_Core, tSp_eq] at q2
   have hw : whereT h s = ⟨#[117, 112]⟩ := by unfold whereT; rw [if_pos g1]
   have hh : howT (nth h.parts k).core = ⟨#[111, 102, 102]⟩ := by unfold howT; rw [if_neg (by rw [q1]; simp), if_neg (by rw [q2]; simp)]
   have e1 : (⟨#[32, 117, 112]⟩ : ByteArray).size = 3 := rfl
   have e2 : (⟨#[111, 102, 102]⟩ : ByteArray).size = 3 := rfl
   have e3 : (⟨#[32]⟩ : ByteArray).size = 1 := rfl
   iterate 3 (refine den_cond (fun _ => ?_) ?_; (focus (simp only [E.den, dEq, iEq, sEq, cells_Host, row_Part, Int.toNat_natCast, cells_Part, cells_Core]; refine dec_ok ?_; simp only [ByteArray.size_append, e1, e2, e3]; unfold maxLen; omega)))
   ((first | refine den_call ?_ (c_spec_FormatCells (nth h.parts k).core.cells) (trivial) ?_ | refine den_callR ?_ (c_spec_FormatCells (nth h.parts k).core.cells) (trivial) ?_ | refine den_call ?_ (.ofR (c_spec_FormatCells (nth h.parts k).core.cells)) (trivial) ?_); (focus (simp only [VC.den, E.den, dEq, gsH_nil, and_true, cells_Host, row_Part, Int.toNat_natCast, cells_Part, cells_Core, tSp_eq]; try exact rfl)); (simp only [cA]))
   (refine den_cond (fun _ => ?_) ?_; (focus (simp only [E.den, dEq, iEq, sEq, cells_Host, row_Part, Int.toNat_natCast, cells_Part, cells_Core]; refine dec_ok ?_; simp only [ByteArray.size_append, e1, e2, e3]; unfold maxLen; omega)))
   refine den_ret ?_
   simp only [E.den, dEq, iEq, sEq]
   rw [hw, hh, show (⟨#[32, 117, 112]⟩ : ByteArray) = tSp ++ ⟨#[117, 112]⟩ from rfl, show (⟨#[32]⟩ : ByteArray) = tSp from rfl]
   simp only [ByteArray.append_assoc]
 simp only [E.den, dEq, iEq, sEq] at g1
 ((first | refine den_call ?_ (c_spec_l1HasText h.shut s) (trivial) ?_ | refine den_callR ?_ (c_spec_l1HasText h.shut s) (trivial) ?_ | refine den_call ?_ (.ofR (c_spec_l1HasText h.shut s)) (trivial) ?_); (focus (simp only [VC.den, E.den, dEq, gsH_nil, and_true, cells_Host]; try exact rfl)); (simp only [cA]))
 refine den_ite (fun g2 => ?_) (fun g2 => ?_)
 ·simp only [E.den, dEq, iEq, sEq] at g2
  refine den_cond (fun _ => ?_) ?_
  ·simp only [E.den, dEq, iEq, sEq]; refine dec_ok ?_; unfold maxLen; have : (⟨#[32, 115, 104, 117, 116]⟩ : ByteArray).size = 5 := rfl; omega
  refine den_ite (fun q1 => ?_) (fun q1 => ?_)
  ·simp only [E.den, dEq, iEq, sEq, cells_Host, row_Part, Int.toNat_natCast, cells_Part, cells_Core, tSp_eq] at q1
   have hw : whereT h s = ⟨#[115, 104, 117, 116]⟩ := by unfold whereT; rw [if_neg (by rw [g1]; simp), if_pos g2]
   have hh : howT (nth h.parts k).core = ⟨#[111, 110]⟩ := by unfold howT; rw [if_pos q1]
   have e1 : (⟨#[32, 115, 104, 117, 116]⟩ : ByteArray).size = 5 := rfl
   have e2 : (⟨#[111, 110]⟩ : ByteArray).size = 2 := rfl
   have e3 : (⟨#[32]⟩ : ByteArray).size = 1 := rfl
   iterate 3 (refine den_cond (fun _ => ?_) ?_; (focus (simp only [E.den, dEq, iEq, sEq, cells_Host, row_Part, Int.toNat_natCast, cells_Part, cells_Core]; refine dec_ok ?_; simp only [ByteArray.size_append, e1, e2, e3]; unfold maxLen; omega)))
   ((first | refine den_call ?_ (c_spec_FormatCells (nth h.parts k).core.cells) (trivial) ?_ | refine den_callR ?_ (c_spec_FormatCells (nth h.parts k).core.cells) (trivial) ?_ | refine den_call ?_ (.ofR (c_spec_FormatCells (nth h.parts k).core.cells)) (trivial) ?_); (focus (simp only [VC.den, E.den, dEq, gsH_nil, and_true, cells_Host, row_Part, Int.toNat_natCast, cells_Part, cells_Core, tSp_eq]; try exact rfl)); (simp only [cA]))
   (refine den_cond (fun _ => ?_) ?_; (focus (simp only [E.den, dEq, iEq, sEq, cells_Host, row_Part, Int.toNat_natCast, cells_Part, cells_Core]; refine dec_ok ?_; simp only [ByteArray.size_append, e1, e2, e3]; unfold maxLen; omega)))
   refine den_ret ?_
   simp only [E.den, dEq, iEq, sEq]
   rw [hw, hh, show (⟨#[32, 115, 104, 117, 116]⟩ : ByteArray) = tSp ++ ⟨#[115, 104, 117, 116]⟩ from rfl, show (⟨#[32]⟩ : ByteArray) = tSp from rfl]
   simp only [ByteArray.append_assoc]
  simp only [E.den, dEq, iEq, sEq, cells_Host, row_Part, Int.toNat_natCast, cells_Part, cells_Core, tSp_eq] at q1
  refine den_ite (fun q2 => ?_) (fun q2 => ?_)
  ·simp only [E.den, dEq, iEq, sEq, cells_Host, row_Part, Int.toNat_natCast, cells_Part, cells_Core, tSp_eq] at q2
   have hw : whereT h s = ⟨#[115, 104, 117, 116]⟩ := by unfold whereT; rw [if_neg (by rw [g1]; simp), if_pos g2]
   have hh : howT (nth h.parts k).core = ⟨#[98, 114, 111, 107, 101, 110]⟩ := by unfold howT; rw [if_neg (by rw [q1]; simp), if_pos q2]
   have e1 : (⟨#[32, 115, 104, 117, 116]⟩ : ByteArray).size = 5 := rfl
   have e2 : (⟨#[98, 114, 111, 107, 101, 110]⟩ : ByteArray).size = 6 := rfl
   have e3 : (⟨#[32]⟩ : ByteArray).size = 1 := rfl
   iterate 3 (refine den_cond (fun _ => ?_) ?_; (focus (simp only [E.den, dEq, iEq, sEq, cells_Host, row_Part, Int.toNat_natCast, cells_Part, cells_Core]; refine dec_ok ?_; simp only [ByteArray.size_append, e1, e2, e3]; unfold maxLen; omega)))
   ((first | refine den_call ?_ (c_spec_FormatCells (nth h.parts k).core.cells) (trivial) ?_ | refine den_callR ?_ (c_spec_FormatCells (nth h.parts k).core.cells) (trivial) ?_ | refine den_call ?_ (.ofR (c_spec_FormatCells (nth h.parts k).core.cells)) (trivial) ?_); (focus (simp only [VC.den, E.den, dEq, gsH_nil, and_true, cells_Host, row_Part, Int.toNat_natCast, cells_Part, cells_Core, tSp_eq]; try exact rfl)); (simp only [cA]))
   (refine den_cond (fun _ => ?_) ?_; (focus (simp only [E.den, dEq, iEq, sEq, cells_Host, row_Part, Int.toNat_natCast, cells_Part, cells_Core]; refine dec_ok ?_; simp only [ByteArray.size_append, e1, e2, e3]; unfold maxLen; omega)))
   refine den_ret ?_
   simp only [E.den, dEq, iEq, sEq]
   rw [hw, hh, show (⟨#[32, 115, 104, 117, 116]⟩ : ByteArray) = tSp ++ ⟨#[115, 104, 117, 116]⟩ from rfl, show (⟨#[32]⟩ : ByteArray) = tSp from rfl]
   simp only [ByteArray.append_assoc]
  ·simp only [E.den, dEq, iEq, sEq, cells_Host, row_Part, Int.toNat_natCast, cells_Part, cells_Core, tSp_eq] at q2
   have hw : whereT h s = ⟨#[115, 104, 117, 116]⟩ := by unfold whereT; rw [if_neg (by rw [g1]; simp), if_pos g2]
   have hh : howT (nth h.parts k).core = ⟨#[111, 102, 102]⟩ := by unfold howT; rw [if_neg (by rw [q1]; simp), if_neg (by rw [q2]; simp)]
   have e1 : (⟨#[32, 115, 104, 117, 116]⟩ : ByteArray).size = 5 := rfl
   have e2 : (⟨#[111, 102, 102]⟩ : ByteArray).size = 3 := rfl
   have e3 : (⟨#[32]⟩ : ByteArray).size = 1 := rfl
   iterate 3 (refine den_cond (fun _ => ?_) ?_; (focus (simp only [E.den, dEq, iEq, sEq, cells_Host, row_Part, Int.toNat_natCast, cells_Part, cells_Core]; refine dec_ok ?_; simp only [ByteArray.size_append, e1, e2, e3]; unfold maxLen; omega)))
   ((first | refine den_call ?_ (c_spec_FormatCells (nth h.parts k).core.cells) (trivial) ?_ | refine den_callR ?_ (c_spec_FormatCells (nth h.parts k).core.cells) (trivial) ?_ | refine den_call ?_ (.ofR (c_spec_FormatCells (nth h.parts k).core.cells)) (trivial) ?_); (focus (simp only [VC.den, E.den, dEq, gsH_nil, and_true, cells_Host, row_Part, Int.toNat_natCast, cells_Part, cells_Core, tSp_eq]; try exact rfl)); (simp only [cA]))
   (refine den_cond (fun _ => ?_) ?_; (focus (simp only [E.den, dEq, iEq, sEq, cells_Host, row_Part, Int.toNat_natCast, cells_Part, cells_Core]; refine dec_ok ?_; simp only [ByteArray.size_append, e1, e2, e3]; unfold maxLen; omega)))
   refine den_ret ?_
   simp only [E.den, dEq, iEq, sEq]
   rw [hw, hh, show (⟨#[32, 115, 104, 117, 116]⟩ : ByteArray) = tSp ++ ⟨#[115, 104, 117, 116]⟩ from rfl, show (⟨#[32]⟩ : ByteArray) = tSp from rfl]
   simp only [ByteArray.append_assoc]
 simp only [E.den, dEq, iEq, sEq] at g2
 refine den_ite (fun q1 => ?_) (fun q1 => ?_)
 ·simp only [E.den, dEq, iEq, sEq, cells_Host, row_Part, Int.toNat_natCast, cells_Part, cells_Core, tSp_eq] at q1
  have hw : whereT h s = ⟨#[100, 111, 119, 110]⟩ := by unfold whereT; rw [if_neg (by rw [g1]; simp), if_neg (by rw [g2]; simp)]
  have hh : howT (nth h.parts k).core = ⟨#[111, 110]⟩ := by unfold howT; rw [if_pos q1]
  have e1 : (⟨#[32, 100, 111, 119, 110]⟩ : ByteArray).size = 5 := rfl
  have e2 : (⟨#[111, 110]⟩ : ByteArray).size = 2 := rfl
  have e3 : (⟨#[32]⟩ : ByteArray).size = 1 := rfl
  iterate 3 (refine den_cond (fun _ => ?_) ?_; (focus (simp only [E.den, dEq, iEq, sEq, cells_Host, row_Part, Int.toNat_natCast, cells_Part, cells_Core]; refine dec_ok ?_; simp only [ByteArray.size_append, e1, e2, e3]; unfold maxLen; omega)))
  ((first | refine den_call ?_ (c_spec_FormatCells (nth h.parts k).core.cells) (trivial) ?_ | refine den_callR ?_ (c_spec_FormatCells (nth h.parts k).core.cells) (trivial) ?_ | refine den_call ?_ (.ofR (c_spec_FormatCells (nth h.parts k).core.cells)) (trivial) ?_); (focus (simp only [VC.den, E.den, dEq, gsH_nil, and_true, cells_Host, row_Part, Int.toNat_natCast, cells_Part, cells_Core, tSp_eq]; try exact rfl)); (simp only [cA]))
  (refine den_cond (fun _ => ?_) ?_; (focus (simp only [E.den, dEq, iEq, sEq, cells_Host, row_Part, Int.toNat_natCast, cells_Part, cells_Core]; refine dec_ok ?_; simp only [ByteArray.size_append, e1, e2, e3]; unfold maxLen; omega)))
  refine den_ret ?_
  simp only [E.den, dEq, iEq, sEq]
  rw [hw, hh, show (⟨#[32, 100, 111, 119, 110]⟩ : ByteArray) = tSp ++ ⟨#[100, 111, 119, 110]⟩ from rfl, show (⟨#[32]⟩ : ByteArray) = tSp from rfl]
  simp only [ByteArray.append_assoc]
 simp only [E.den, dEq, iEq, sEq, cells_Host, row_Part, Int.toNat_natCast, cells_Part, cells_Core, tSp_eq] at q1
 refine den_ite (fun q2 => ?_) (fun q2 => ?_)
 ·simp only [E.den, dEq, iEq, sEq, cells_Host, row_Part, Int.toNat_natCast, cells_Part, cells_Core, tSp_eq] at q2
  have hw : whereT h s = ⟨#[100, 111, 119, 110]⟩ := by unfold whereT; rw [if_neg (by rw [g1]; simp), if_neg (by rw [g2]; simp)]
  have hh : howT (nth h.parts k).core = ⟨#[98, 114, 111, 107, 101, 110]⟩ := by unfold howT; rw [if_neg (by rw [q1]; simp), if_pos q2]
  have e1 : (⟨#[32, 100, 111, 119, 110]⟩ : ByteArray).size = 5 := rfl
  have e2 : (⟨#[98, 114, 111, 107, 101, 110]⟩ : ByteArray).size = 6 := rfl
  have e3 : (⟨#[32]⟩ : ByteArray).size = 1 := rfl
  iterate 3 (refine den_cond (fun _ => ?_) ?_; (focus (simp only [E.den, dEq, iEq, sEq, cells_Host, row_Part, Int.toNat_natCast, cells_Part, cells_Core]; refine dec_ok ?_; simp only [ByteArray.size_append, e1, e2, e3]; unfold maxLen; omega)))
  ((first | refine den_call ?_ (c_spec_FormatCells (nth h.parts k).core.cells) (trivial) ?_ | refine den_callR ?_ (c_spec_FormatCells (nth h.parts k).core.cells) (trivial) ?_ | refine den_call ?_ (.ofR (c_spec_FormatCells (nth h.parts k).core.cells)) (trivial) ?_); (focus (simp only [VC.den, E.den, dEq, gsH_nil, and_true, cells_Host, row_Part, Int.toNat_natCast, cells_Part, cells_Core, tSp_eq]; try exact rfl)); (simp only [cA]))
  (refine den_cond (fun _ => ?_) ?_; (focus (simp only [E.den, dEq, iEq, sEq, cells_Host, row_Part, Int.toNat_natCast, cells_Part, cells_Core]; refine dec_ok ?_; simp only [ByteArray.size_append, e1, e2, e3]; unfold maxLen; omega)))
  refine den_ret ?_
  simp only [E.den, dEq, iEq, sEq]
  rw [hw, hh, show (⟨#[32, 100, 111, 119, 110]⟩ : ByteArray) = tSp ++ ⟨#[100, 111, 119, 110]⟩ from rfl, show (⟨#[32]⟩ : ByteArray) = tSp from rfl]
  simp only [ByteArray.append_assoc]
 ·simp only [E.den, dEq, iEq, sEq, cells_Host, row_Part, Int.toNat_natCast, cells_Part, cells_Core, tSp_eq] at q2
  have hw : whereT h s = ⟨#[100, 111, 119, 110]⟩ := by unfold whereT; rw [if_neg (by rw [g1]; simp), if_neg (by rw [g2]; simp)]
  have hh : howT (nth h.parts k).core = ⟨#[111, 102, 102]⟩ := by unfold howT; rw [if_neg (by rw [q1]; simp), if_neg (by rw [q2]; simp)]
  have e1 : (⟨#[32, 100, 111, 119, 110]⟩ : ByteArray).size = 5 := rfl
  have e2 : (⟨#[111, 102, 102]⟩ : ByteArray).size = 3 := rfl
  have e3 : (⟨#[32]⟩ : ByteArray).size = 1 := rfl
  iterate 3 (refine den_cond (fun _ => ?_) ?_; (focus (simp only [E.den, dEq, iEq, sEq, cells_Host, row_Part, Int.toNat_natCast, cells_Part, cells_Core]; refine dec_ok ?_; simp only [ByteArray.size_append, e1, e2, e3]; unfold maxLen; omega)))
  ((first | refine den_call ?_ (c_spec_FormatCells (nth h.parts k).core.cells) (trivial) ?_ | refine den_callR ?_ (c_spec_FormatCells (nth h.parts k).core.cells) (trivial) ?_ | refine den_call ?_ (.ofR (c_spec_FormatCells (nth h.parts k).core.cells)) (trivial) ?_); (focus (simp only [VC.den, E.den, dEq, gsH_nil, and_true, cells_Host, row_Part, Int.toNat_natCast, cells_Part, cells_Core, tSp_eq]; try exact rfl)); (simp only [cA]))
  (refine den_cond (fun _ => ?_) ?_; (focus (simp only [E.den, dEq, iEq, sEq, cells_Host, row_Part, Int.toNat_natCast, cells_Part, cells_Core]; refine dec_ok ?_; simp only [ByteArray.size_append, e1, e2, e3]; unfold maxLen; omega)))
  refine den_ret ?_
  simp only [E.den, dEq, iEq, sEq]
  rw [hw, hh, show (⟨#[32, 100, 111, 119, 110]⟩ : ByteArray) = tSp ++ ⟨#[100, 111, 119, 110]⟩ from rfl, show (⟨#[32]⟩ : ByteArray) = tSp from rfl]
  simp only [ByteArray.append_assoc]
end Go.Proofs.YtjmakbnblpjkhaaGreatDoor
/- What a law is handed, opened: a value that reads as data of the statement's kind reads as abstract data. No program in sight. -/
namespace Go.Proofs.YtjmakbnblpjkhaaGreatDoor
open Go.RowKit Go.ChangeShapes Go.WideShapes Go.ChangeAt
variable [GC]
def opn (tb : TB) : Nat → Nat → Bool
 | 0, _ => false
 | d + 1, T => match tb.get T with
  | none => false
  | some ti => match ti.vt with
   | .one (.c (.sl e)) => opn tb d e && Nat.blt 0 (tb.tab e).length
   | .one (.c _) => true
   | .one (.agg ts) => contig tb 0 ts ti.fs && ti.fs.all (fun x => opn tb d x.2)
   | .tup _ => false
theorem opn_one {tb : TB} {d T : Nat} (h : opn tb d T = true) : ∃ ti v, tb.get T = some ti ∧ ti.vt = .one v ∧ tb.tab T = v.cells := by
 cases d with
 | zero => simp [opn] at h
 | succ d =>
  simp only [opn] at h
  split at h
  ·simp at h
  ·rename_i ti hti
   cases hv : ti.vt with
   | tup _ => rw [hv] at h; simp at h
   | one v => exact ⟨ti, v, hti, hv, by simp [TB.tab, hti, TI.cells, hv]⟩
def vtOf (tb : TB) (T : Nat) : VT := match tb.get T with | some ti => ti.vt | none => .tup []
def M0 : Addr → Prop := fun _ => False
section
variable {H : Type} {enc : TypeId × Value → H} {P : Program} {w : World} {base : Nat} {spare : Nat → Bool} {held : Bool} {tb : TB}
theorem rs_rw {M : Addr → Prop} {ds : List D} {cs : List Value} {b o : Nat} (h : Rs w M ds cs) (hc : ∀ j u, cs[j]? = some u → w.cell? ⟨b, o + j, none⟩ = some u) (hM : ∀ p, ¬ M p) : Rw w M ds b o :=
 Rw.of fun i d hd => by
  obtain ⟨v, h1, h2⟩ := h.get hd
  exact ⟨v, hc i v h1, hM _, h2⟩
theorem cellsOf_tab (hcx : tbOk P tb tb = true) {d T : Nat} (h : opn tb d T = true) : P.cellsOf T = (tb.tab T).length := by
 obtain ⟨ti, v, h1, h2, h3⟩ := opn_one h
 obtain ⟨i, hi, hs, _⟩ := ty_one hcx h1 h2
 simp [Program.cellsOf, hi, hs, h3]
theorem open_fields {cs : List Value} : ∀ (fl : List (Nat × Nat)) (o : Nat) (ts : List CT), contig tb o ts fl = true →
  (∀ p ∈ fl, ∃ ds, RowTy tb.tab (tb.tab p.2) ds ∧ Rs w M0 ds ((cs.drop p.1).take (tb.tab p.2).length)) → cs.length = o + ts.length → ∃ ds, RowTy tb.tab ts ds ∧ Rs w M0 ds (cs.drop o)
 | [], o, ts, h, _, hl => by
  simp only [contig, List.isEmpty_iff] at h
  subst h
  refine ⟨[], trivial, ?_⟩
  rw [List.drop_eq_nil_of_le (by simp at hl; omega)]; rfl
 | (o', t) :: r, o, ts, h, hf, hl => by
  simp only [contig, Bool.and_eq_true] at h
  obtain ⟨h1, h2⟩ := h
  have h1 := Nat.eq_of_beq_eq_true h1
  subst h1
  cases ht : tb.get t with
  | none => rw [ht] at h2; simp at h2
  | some i =>
   rw [ht] at h2
   simp only [Bool.and_eq_true, decide_eq_true_eq] at h2
   obtain ⟨h2, h3⟩ := h2
   have htab : tb.tab t = i.cells := by simp [TB.tab, ht]
   obtain ⟨ds, q1, q2⟩ := hf (o, t) (by simp)
   simp only [htab] at q1 q2
   have hle : i.cells.length ≤ ts.length := by
    have := congrArg List.length h2
    rw [List.length_take] at this; omega
   obtain ⟨ds', q3, q4⟩ := open_fields r (o + i.cells.length) (ts.drop i.cells.length) h3 (fun p hp => hf p (by simp [hp])) (by rw [List.length_drop]; omega)
   refine ⟨ds ++ ds', ?_, ?_⟩
   ·have : ts = i.cells ++ ts.drop i.cells.length := (List.take_append_drop i.cells.length ts).symm.trans (by rw [h2])
    rw [this]; exact q1.append q3
   ·have : cs.drop o = (cs.drop o).take i.cells.length ++ cs.drop (o + i.cells.length) := by
     rw [← List.drop_drop, List.take_append_drop]
    rw [this]; exact q2.append q4
theorem open_ty (hcx : tbOk P tb tb = true) : ∀ (d T : Nat), opn tb d T = true → ∀ (fuel : Nat) (cs : List Value) (x : DataW H × List MemPlace), DataW.trod enc P w base spare held fuel T cs = some x → ∃ ds, RowTy tb.tab (tb.tab T) ds ∧ Rs w M0 ds cs
 | 0, _, h, _, _, _, _ => by simp [opn] at h
 | d + 1, T, h, fuel, cs, x, hx => by
  simp only [opn] at h
  split at h
  ·simp at h
  ·rename_i ti hti
   have htab : tb.tab T = ti.cells := by simp [TB.tab, hti]
   rw [htab]
   cases hv : ti.vt with
   | tup _ => rw [hv] at h; simp at h
   | one v =>
    rw [hv] at h
    simp only [TI.cells, hv]
    cases v with
    | c t =>
     obtain ⟨i, ds, _, _, _, _, hu, hd⟩ := ty_c hcx hti hv
     cases t with
     | mem => exact hd.elim
     | fn => exact hd.elim
     | bool =>
      simp only [DescC] at hd; subst hd
      obtain ⟨b, rfl, _⟩ := DataW.trod_bool hu hx
      exact ⟨[.bool b], ⟨trivial, trivial⟩, Rs.one rfl⟩
     | int k =>
      simp only [DescC] at hd; subst hd
      obtain ⟨n, rfl, _, hw⟩ := DataW.trod_int hu hx
      exact ⟨[.int k n], ⟨rfl, trivial⟩, Rs.one ⟨rfl, by simpa [Lit.wf] using hw⟩⟩
     | str =>
      simp only [DescC] at hd; subst hd
      obtain ⟨s, rfl, _, hw⟩ := DataW.trod_string hu hx
      exact ⟨[.str s], ⟨trivial, trivial⟩, Rs.one ⟨rfl, hw⟩⟩
     | sl e =>
      simp only [DescC] at hd; subst hd
      simp only [Bool.and_eq_true] at h
      obtain ⟨he, hpos⟩ := h
      have hpos : 0 < (tb.tab e).length := Nat.le_of_ble_eq_true hpos
      have hn := cellsOf_tab hcx he
      rcases Go.Deep.open_slice hu hx with ⟨h0, _⟩ | ⟨a, len, cap, m, n, Dd, Pl, hcs, _, hl, hm, hmm, _, hi⟩
      ·exact ⟨[.sl []], ⟨trivial, trivial⟩, by rw [h0]; exact Rs.one ⟨none, 0, 0, rfl, rfl, Nat.le_refl _, Nat.zero_le _, fun _ => rfl, fun b o s hh => by cases hh⟩⟩
      ·have hlm : len ≤ m := by rw [hmm]; split <;> omega
       have hex : ∀ i, i < len → ∃ q : List Value × List D, w.cells? base (a.add (i * P.cellsOf e)) (P.cellsOf e) = some q.1 ∧ RowTy tb.tab (tb.tab e) q.2 ∧ Rs w M0 q.2 q.1 := fun i hil => by
        obtain ⟨cs', hc, ht'⟩ := hi i (by omega)
        obtain ⟨y, hy1, hy2⟩ := open_ty hcx d e he _ _ _ ht'
        exact ⟨(cs', y), hc, hy1, hy2⟩
       have hch : ∃ f : Nat → List Value × List D, ∀ i, i < len → w.cells? base (a.add (i * P.cellsOf e)) (P.cellsOf e) = some (f i).1 ∧ RowTy tb.tab (tb.tab e) (f i).2 ∧ Rs w M0 (f i).2 (f i).1 := by
        refine ⟨fun i => if hi : i < len then (hex i hi).choose else ([], []), fun i hi => ?_⟩
        simp only [hi, dif_pos]
        exact (hex i hi).choose_spec
       obtain ⟨f, hf⟩ := hch
       have hcell : ∀ i, i < len → ∀ j u, (f i).1[j]? = some u → w.cell? ((a.add (i * P.cellsOf e)).add j) = some u := fun i hil j u hu => by
        obtain ⟨_, hcl, hat⟩ := World.cells?_some (hf i hil).1
        have hj : j < P.cellsOf e := by rw [← hcl]; exact (List.getElem?_eq_some_iff.1 hu).1
        rw [hat j hj, hu]
       have hspot : 0 < len → a.spot = none := fun h0 => by
        have hlen0 : 0 < (f 0).1.length := by rw [(hf 0 h0).2.2.length, (hf 0 h0).2.1.length]; exact hpos
        have hx := hcell 0 h0 0 _ (List.getElem?_eq_getElem hlen0)
        rw [Nat.zero_mul] at hx
        exact World.cell?_spot (a := a) (by simpa [Addr.add] using hx)
       refine ⟨[.sl ((List.range len).map fun i => (f i).2)], ⟨?_, trivial⟩, ?_⟩
       ·refine RowsTy.of fun r hr => ?_
        obtain ⟨i, hi, rfl⟩ := List.mem_map.1 hr
        exact (hf i (by simpa using hi)).2.1
       ·rw [hcs]
        refine Rs.one ⟨some a, len, cap, rfl, by simp, hl, hm, (fun h => by cases h), fun b o s hh => ⟨fun h0 => ?_, ?_⟩⟩
        ·have := hspot h0
         simp only [Option.some.injEq] at hh; subst hh; exact this
        ·simp only [Option.some.injEq] at hh; subst hh
         refine Rws.of (n := (tb.tab e).length) (fun r hr => ?_) fun i r hr => ?_
         ·obtain ⟨i, hi, rfl⟩ := List.mem_map.1 hr
          exact (hf i (by simpa using hi)).2.1.length
         ·have hil : i < len := by
           have := (List.getElem?_eq_some_iff.1 hr).1
           simpa using this
          have hr' : r = (f i).2 := by simp [hil] at hr; exact hr.symm
          subst hr'
          refine rs_rw (hf i hil).2.2 (fun j u hu => ?_) (fun _ h => h)
          have h1 := hcell i hil j u hu
          have hs := hspot (by omega)
          simp only at hs
          subst hs
          rw [hn] at h1
          rwa [addr_add, addr_add] at h1
    | agg ts =>
     simp only [Bool.and_eq_true] at h
     obtain ⟨hc, hall⟩ := h
     obtain ⟨i, fields, zs, hi, hs, _, _, _, hu, hfo⟩ := ty_agg hcx hti hv
     obtain ⟨xs, m, _, _, hl, hxs, hf⟩ := DataW.trod_struct hu hx
     have hlen : cs.length = ts.length := by rw [hl]; simp [Program.cellsOf, hi, hs]
     have key : ∀ p ∈ ti.fs, ∃ ds, RowTy tb.tab (tb.tab p.2) ds ∧ Rs w M0 ds ((cs.drop p.1).take (tb.tab p.2).length) := by
      intro p hp
      have hop := List.all_eq_true.1 hall p hp
      obtain ⟨k, hk⟩ := List.getElem?_of_mem hp
      have hfk : ∃ fd, fields.toList[k]? = some fd ∧ fd.offset = p.1 ∧ fd.type = p.2 := fieldsOk_get hfo hk
      obtain ⟨fd, hfd, e1, e2⟩ := hfk
      have hfd' : fields[k]? = some fd := by simpa using hfd
      have hlt : k < xs.length := by rw [hxs]; exact (Array.getElem?_eq_some_iff.1 hfd').1
      have ht := (hf k fd hfd').trans (List.getElem?_eq_getElem hlt)
      rw [e1, e2, cellsOf_tab hcx hop] at ht
      exact open_ty hcx d p.2 hop _ _ _ ht
     have := open_fields (w := w) ti.fs 0 ts hc key (by omega)
     simpa [V1.cells] using this
theorem open_arg (hcx : tbOk P tb tb = true) {r : Reach} {b0 T : Nat} {v : Value} {dd : DataW H} {p : List MemPlace} (ht : opn tb 12 T = true) (hv : Value.okWide P w r b0 T v) (h : DataW.Trod enc P w base spare held T v dd p) :
  ∃ x, HasVT tb.tab (vtOf tb T) x ∧ R w M0 x v := by
 obtain ⟨fuel, hf⟩ := h
 obtain ⟨ds, h1, h2⟩ := open_ty hcx 12 T ht fuel _ _ hf
 obtain ⟨ti, v1, hti, hv1, htab⟩ := opn_one ht
 rw [htab] at h1
 unfold vtOf
 rw [hti]
 simp only [hv1]
 cases v1 with
 | c t =>
  obtain ⟨_, d, _, _, _, _, hu, hd⟩ := ty_c hcx hti hv1
  have hc : v.cells.toList = [v] := by
   cases t <;> simp only [DescC] at hd <;> subst hd
   ·obtain ⟨_, rfl⟩ := okWide_bool hu hv; rfl
   ·obtain ⟨_, rfl⟩ := okWide_int hu hv; rfl
   ·obtain ⟨_, rfl⟩ := okWide_string hu hv; rfl
   ·obtain ⟨_, _, _, rfl⟩ := okWide_slice hu hv; rfl
  rw [hc] at h2
  match ds, h1 with
  | [x], h1 =>
   obtain ⟨v', q, e, h3, h4⟩ := h2
   simp only [List.cons.injEq] at e
   obtain ⟨rfl, rfl⟩ := e
   exact ⟨x, h1.1, h3⟩
 | agg ts =>
  obtain ⟨_, fields, _, _, _, _, _, _, hu, _⟩ := ty_agg hcx hti hv1
  obtain ⟨cs, rfl, _⟩ := okWide_struct hu hv
  exact ⟨.agg ds, h1, cs, rfl, h2⟩
end
theorem law_run {P : Program} {f : FuncId} {ds : List D} {vs : List Value} {w : World} (h : Fun P f none ds (.bool true) []) (hG : Rdy w M0) (hr : Rs w M0 ds vs) : Calls P f vs.toArray w fun e w' => e = .returned (.bool true) ∧ Below w.heap.size w w' := by
 refine (h.2 w M0 0 vs hG hr (fun cs hcs => by cases hcs)).mono ?_
 rintro e w' ⟨v, rfl, h1, h2, _⟩
 simp only [R] at h1
 subst h1
 exact ⟨rfl, h2.to_below⟩
end Go.Proofs.YtjmakbnblpjkhaaGreatDoor
/- Rows that list variables of packages: the builder, and what the list says of the variables' blocks. No program in sight. -/
namespace Go.Proofs.YtjmakbnblpjkhaaGreatDoor
open Go.RowKit Go Go.ChangeShapes
theorem handed_laid_shaped {H : Type} {enc : TypeId × Value → H} {a : Assume} {C : Checked} {os : Os} {f : FuncId} {fn : Func} {s : ChangeSpec} {conds : List PathCond} {apart fresh handsOn again : Bool} {X : World → Array Value → Prop}
  (hX : ∀ (w w' : World) (args : Array Value), w.heap = w'.heap → X w args → X w' args)
  (own : ownKnob C.prog.godebug = none) (started : os.Started) (noInit : C.prog.inits.idxOf? f = none) (hfn : C.prog.funcs[f]? = some fn)
  (witness : ∃ (w : World) (tape : Tape) (i : Input), w.os = os ∧ (w.forCall tape i).Shaped C.prog ∧ i.vars = [] ∧ Input.okWide C.prog (w.forCall tape i) .any w.heap.size f i ∧
   ((s.pre enc C.prog fn conds apart (w.forCall tape i).memory i.args ∧ X (w.forCall tape i).memory i.args) ∧ sizedMet enc C.prog fn (OpenSpec.ofChange s) apart (w.forCall tape i).memory i.args) ∧ a.holds C.prog (lone (Frame.enter C.prog f i.args .normal) [] (w.forCall tape i)))
  (contract : ∀ (W : World) (base : Nat) (args : Array Value) (ds gs : List (DataW H)) (before : List MemPlace),
   (∀ (j : Nat) t v, fn.params[j]? = some t → args[j]? = some v → Value.okWide C.prog W .any base t v) →
   DataW.Whole enc C.prog fn.params.toList s.vars apart W args.toList ds gs before →
   conds.all (PathCond.test C.prog ⟨fn.params.toList, ds, s.plain.varTypes C.prog, gs⟩) = true →
   (DataW.weightsEach C.prog (fn.params.toList ++ s.plain.varTypes C.prog) (ds ++ gs)).all (· ≤ reachBytes) = true → W.ShapedOpen C.prog → X W args →
   a.holds C.prog (lone (Frame.enter C.prog f args .normal) [] W) →
   Calls C.prog f args W fun e W' => ∃ v, e = .returned v ∧ s.post enc C.prog fn apart fresh handsOn again W args v W') :
  ReturnsInHanded a C os f .any (fun w args => (s.pre enc C.prog fn conds apart w args ∧ X w args) ∧ sizedMet enc C.prog fn (OpenSpec.ofChange s) apart w args) (s.post enc C.prog fn apart fresh handsOn again) := by
 refine returnsInHanded_of_calls own started noInit witness fun w tape i _ hshape _ hok hpre hh => ?_
 obtain ⟨_, _, _, fn', hfn', _, _, _, _, hval⟩ := hok
 cases Option.some.inj (hfn'.symm.trans hfn)
 obtain ⟨⟨⟨ds, gs, before, q1, q2⟩, q3⟩, q4⟩ := hpre
 refine (contract (w.forCall tape i) w.heap.size i.args ds gs before hval (DataW.Whole.of_heap (w' := w.forCall tape i) (by rfl) q1) q2 (q4.weights q1) hshape (hX _ _ _ (by rfl) q3) hh).mono fun e W' ⟨v, he, hp⟩ => ?_
 cases he
 exact ChangeSpec.post_blind hp
theorem stand_in {P : Program} {ps : Array TypeId} (h : ps.all (fun t => !P.wantsStandIn t) = true) : ∀ (j : Nat) t, ps[j]? = some t → P.wantsStandIn t = false := fun j t ht => by
 rw [Array.all_eq_true_iff_forall_mem] at h
 have := h t (Array.mem_of_getElem? ht)
 simpa using this
theorem ghas_of_var {P : Program} {w : World} {n : String} {g : Nat} {cs : Array Value} {p : Array Value → Prop} (hg : P.globalNamed n = some g) (h : w.var? P n = some cs) (hp : p cs) : GHas w g p := by
 simp only [World.var?, hg, Option.bind_some] at h
 split at h
 ·rename_i c t f hh
  simp at h; subst h
  exact ⟨_, t, f, hh, hp⟩
 ·simp at h
theorem seat_pow {W : World} {r : List (String × DataW Unit)} {n : String} (hn : Tryz.prog.globalNamed n = some 7) (h : laidMet Tryz.prog ((n, Rows.laid_internal_strconv_uint64pow10) :: r) W) : GHas W 7 fun cs => cs = (Lib.pow10Tab.map fun z => Value.int .u64 z).toArray := by
 have e : (Rows.laid_internal_strconv_uint64pow10 : DataW Unit) = Lib.tabData .u64 Lib.pow10Tab := by kernel_rfl
 rw [e] at h
 have := Lib.tabIs_of_head (t := 261) hn (by kernel_rfl) Tryz.underlying261 Tryz.underlying244 (by kernel_rfl) (by kernel_rfl) h
 exact ghas_of_var hn this rfl
theorem ghas_lt {w : World} {g : Nat} {p : Array Value → Prop} (h : GHas w g p) : g + 1 ≤ w.heap.size := by
 obtain ⟨cs, t, f, h1, _⟩ := h
 rcases Nat.lt_or_ge g w.heap.size with h | h
 ·exact h
 ·rw [Array.getElem?_eq_none h] at h1; cases h1
end Go.Proofs.YtjmakbnblpjkhaaGreatDoor
/- What the rows ask of the seat's program as a whole, decided once. -/
namespace Go.Proofs.YtjmakbnblpjkhaaGreatDoor
open Go
theorem jfOwn : ownKnob Tryz.prog.godebug = none := by kernel_rfl
theorem jfLaid : laidOutB Tryz.prog = true := by kernel_rfl
theorem jfRowed : mapsRowed Tryz.prog = true := by kernel_rfl
theorem jfStops : (Tryz.prog.stops == []) = true := by kernel_rfl
theorem jfKnobs : (Tryz.prog.stopKnobs == []) = true := by kernel_rfl
theorem jfKeys : (Rows.fnExactHostLineRow.plainKeys == Tryz.prog.plainKeys) = true := by kernel_rfl
theorem jfHeard : Tryz.prog.stopsHeard = true := by kernel_rfl
theorem jfEnter : Tryz.prog.mayEnter = true := by kernel_rfl
theorem jfLifted : (Rows.fnExactHostLineRow.lifted == Tryz.prog.liftsFinal) = true := by kernel_rfl
theorem jfMake : (Tryz.prog.make == some Rows.fnExactHostLineRow.make) = true := by kernel_rfl
theorem and_tt {a b : Bool} (ha : a = true) (hb : b = true) : (a && b) = true := by rw [ha, hb]; rfl
end Go.Proofs.YtjmakbnblpjkhaaGreatDoor
