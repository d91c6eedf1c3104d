/- The program's structs as plain types, how they lie in memory, and their sizes as the laws count them. No program in sight. Written by gen.py. -/
import Derived.Test.YthoilclddnjjjaaTypes
import Derived.Test.YthoilclddnjjjaaRow
namespace Go.Proofs.Ythoilclddnjjjaa
open Go.RowKit
set_option linter.unusedVariables false

instance : Rep Offer := ⟨2, fun w S cs x => ∃ (a0 : Option Addr) (n0 c0 : Nat), cs = [.slice a0 n0 c0, .int .i64 x.face] ∧ Sl w S a0 n0 c0 x.vers ∧ I64 x.face ∧ True,
  fun ⟨a0, n0, c0, h, f0, f1, _⟩ => by simp [h], fun ⟨a0, n0, c0, h, f0, f1, _⟩ hk => ⟨a0, n0, c0, h, f0.keep hk, f1, trivial⟩, fun ⟨a0, n0, c0, h, f0, f1, _⟩ hs => ⟨a0, n0, c0, h, f0.wide hs, f1, trivial⟩⟩
structure Need where
  face : Int
  prov : ByteArray
  least : Ver
  deriving DecidableEq, Inhabited
instance : Rep Need := ⟨4, fun w S cs x => cs = [.int .i64 x.face, .string x.prov, .int .i64 x.least.maj, .int .i64 x.least.min] ∧ I64 x.face ∧ x.prov.size ≤ maxLen ∧ I64 x.least.maj ∧ I64 x.least.min ∧ True,
  fun ⟨h, f0, f1, f2, f3, _⟩ => by simp [h], fun ⟨h, f0, f1, f2, f3, _⟩ hk => ⟨h, f0, f1, f2, f3, trivial⟩, fun ⟨h, f0, f1, f2, f3, _⟩ hs => ⟨h, f0, f1, f2, f3, trivial⟩⟩
structure Entry where
  name : ByteArray
  recipe : List ByteArray
  ver : Ver
  needs : List Need
  deriving DecidableEq, Inhabited
instance : Rep Entry := ⟨5, fun w S cs x => ∃ (a1 : Option Addr) (n1 c1 : Nat) (a4 : Option Addr) (n4 c4 : Nat), cs = [.string x.name, .slice a1 n1 c1, .int .i64 x.ver.maj, .int .i64 x.ver.min, .slice a4 n4 c4] ∧ x.name.size ≤ maxLen ∧ Sl w S a1 n1 c1 x.recipe ∧ I64 x.ver.maj ∧ I64 x.ver.min ∧ Sl w S a4 n4 c4 x.needs ∧ True,
  fun ⟨a1, n1, c1, a4, n4, c4, h, f0, f1, f2, f3, f4, _⟩ => by simp [h], fun ⟨a1, n1, c1, a4, n4, c4, h, f0, f1, f2, f3, f4, _⟩ hk => ⟨a1, n1, c1, a4, n4, c4, h, f0, f1.keep hk, f2, f3, f4.keep hk, trivial⟩, fun ⟨a1, n1, c1, a4, n4, c4, h, f0, f1, f2, f3, f4, _⟩ hs => ⟨a1, n1, c1, a4, n4, c4, h, f0, f1.wide hs, f2, f3, f4.wide hs, trivial⟩⟩
structure Cell where
  key : ByteArray
  value : Int
  deriving DecidableEq, Inhabited
instance : Rep Cell := ⟨2, fun w S cs x => cs = [.string x.key, .int .i64 x.value] ∧ x.key.size ≤ maxLen ∧ I64 x.value ∧ True,
  fun ⟨h, f0, f1, _⟩ => by simp [h], fun ⟨h, f0, f1, _⟩ hk => ⟨h, f0, f1, trivial⟩, fun ⟨h, f0, f1, _⟩ hs => ⟨h, f0, f1, trivial⟩⟩
structure Core where
  kind : ByteArray
  on : Bool
  broken : Bool
  cells : List Cell
  count : Int
  deriving DecidableEq, Inhabited
instance : Rep Core := ⟨5, fun w S cs x => ∃ (a3 : Option Addr) (n3 c3 : Nat), cs = [.string x.kind, .bool x.on, .bool x.broken, .slice a3 n3 c3, .int .i64 x.count] ∧ x.kind.size ≤ maxLen ∧ Sl w S a3 n3 c3 x.cells ∧ I64 x.count ∧ True,
  fun ⟨a3, n3, c3, h, f0, f3, f4, _⟩ => by simp [h], fun ⟨a3, n3, c3, h, f0, f3, f4, _⟩ hk => ⟨a3, n3, c3, h, f0, f3.keep hk, f4, trivial⟩, fun ⟨a3, n3, c3, h, f0, f3, f4, _⟩ hs => ⟨a3, n3, c3, h, f0, f3.wide hs, f4, trivial⟩⟩
structure CallD where
  method : ByteArray
  key : ByteArray
  value : Int
  text : ByteArray
  deriving DecidableEq, Inhabited
instance : Rep CallD := ⟨4, fun w S cs x => cs = [.string x.method, .string x.key, .int .i64 x.value, .string x.text] ∧ x.method.size ≤ maxLen ∧ x.key.size ≤ maxLen ∧ I64 x.value ∧ x.text.size ≤ maxLen ∧ True,
  fun ⟨h, f0, f1, f2, f3, _⟩ => by simp [h], fun ⟨h, f0, f1, f2, f3, _⟩ hk => ⟨h, f0, f1, f2, f3, trivial⟩, fun ⟨h, f0, f1, f2, f3, _⟩ hs => ⟨h, f0, f1, f2, f3, trivial⟩⟩
structure Reply where
  code : Int
  value : Int
  text : ByteArray
  want : Int
  had : Int
  deriving DecidableEq, Inhabited
instance : Rep Reply := ⟨5, fun w S cs x => cs = [.int .i64 x.code, .int .i64 x.value, .string x.text, .int .i64 x.want, .int .i64 x.had] ∧ I64 x.code ∧ I64 x.value ∧ x.text.size ≤ maxLen ∧ I64 x.want ∧ I64 x.had ∧ True,
  fun ⟨h, f0, f1, f2, f3, f4, _⟩ => by simp [h], fun ⟨h, f0, f1, f2, f3, f4, _⟩ hk => ⟨h, f0, f1, f2, f3, f4, trivial⟩, fun ⟨h, f0, f1, f2, f3, f4, _⟩ hs => ⟨h, f0, f1, f2, f3, f4, trivial⟩⟩
structure Layer where
  name : ByteArray
  count : Int
  deriving DecidableEq, Inhabited
instance : Rep Layer := ⟨2, fun w S cs x => cs = [.string x.name, .int .i64 x.count] ∧ x.name.size ≤ maxLen ∧ I64 x.count ∧ True,
  fun ⟨h, f0, f1, _⟩ => by simp [h], fun ⟨h, f0, f1, _⟩ hk => ⟨h, f0, f1, trivial⟩, fun ⟨h, f0, f1, _⟩ hs => ⟨h, f0, f1, trivial⟩⟩
structure Part where
  core : Core
  layers : List Layer
  deriving DecidableEq, Inhabited
instance : Rep Part := ⟨6, fun w S cs x => ∃ (a3 : Option Addr) (n3 c3 : Nat) (a5 : Option Addr) (n5 c5 : Nat), cs = [.string x.core.kind, .bool x.core.on, .bool x.core.broken, .slice a3 n3 c3, .int .i64 x.core.count, .slice a5 n5 c5] ∧ x.core.kind.size ≤ maxLen ∧ Sl w S a3 n3 c3 x.core.cells ∧ I64 x.core.count ∧ Sl w S a5 n5 c5 x.layers ∧ True,
  fun ⟨a3, n3, c3, a5, n5, c5, h, f0, f3, f4, f5, _⟩ => by simp [h], fun ⟨a3, n3, c3, a5, n5, c5, h, f0, f3, f4, f5, _⟩ hk => ⟨a3, n3, c3, a5, n5, c5, h, f0, f3.keep hk, f4, f5.keep hk, trivial⟩, fun ⟨a3, n3, c3, a5, n5, c5, h, f0, f3, f4, f5, _⟩ hs => ⟨a3, n3, c3, a5, n5, c5, h, f0, f3.wide hs, f4, f5.wide hs, trivial⟩⟩
structure Event where
  kind : Int
  name : ByteArray
  call : CallD
  recipe : List ByteArray
  deriving DecidableEq, Inhabited
instance : Rep Event := ⟨7, fun w S cs x => ∃ (a6 : Option Addr) (n6 c6 : Nat), cs = [.int .i64 x.kind, .string x.name, .string x.call.method, .string x.call.key, .int .i64 x.call.value, .string x.call.text, .slice a6 n6 c6] ∧ I64 x.kind ∧ x.name.size ≤ maxLen ∧ x.call.method.size ≤ maxLen ∧ x.call.key.size ≤ maxLen ∧ I64 x.call.value ∧ x.call.text.size ≤ maxLen ∧ Sl w S a6 n6 c6 x.recipe ∧ True,
  fun ⟨a6, n6, c6, h, f0, f1, f2, f3, f4, f5, f6, _⟩ => by simp [h], fun ⟨a6, n6, c6, h, f0, f1, f2, f3, f4, f5, f6, _⟩ hk => ⟨a6, n6, c6, h, f0, f1, f2, f3, f4, f5, f6.keep hk, trivial⟩, fun ⟨a6, n6, c6, h, f0, f1, f2, f3, f4, f5, f6, _⟩ hs => ⟨a6, n6, c6, h, f0, f1, f2, f3, f4, f5, f6.wide hs, trivial⟩⟩
structure Host where
  entries : List Entry
  parts : List Part
  up : List ByteArray
  shut : List ByteArray
  log : List Event
  deriving DecidableEq, Inhabited
instance : Rep Host := ⟨5, fun w S cs x => ∃ (a0 : Option Addr) (n0 c0 : Nat) (a1 : Option Addr) (n1 c1 : Nat) (a2 : Option Addr) (n2 c2 : Nat) (a3 : Option Addr) (n3 c3 : Nat) (a4 : Option Addr) (n4 c4 : Nat), cs = [.slice a0 n0 c0, .slice a1 n1 c1, .slice a2 n2 c2, .slice a3 n3 c3, .slice a4 n4 c4] ∧ Sl w S a0 n0 c0 x.entries ∧ Sl w S a1 n1 c1 x.parts ∧ Sl w S a2 n2 c2 x.up ∧ Sl w S a3 n3 c3 x.shut ∧ Sl w S a4 n4 c4 x.log ∧ True,
  fun ⟨a0, n0, c0, a1, n1, c1, a2, n2, c2, a3, n3, c3, a4, n4, c4, h, f0, f1, f2, f3, f4, _⟩ => by simp [h], fun ⟨a0, n0, c0, a1, n1, c1, a2, n2, c2, a3, n3, c3, a4, n4, c4, h, f0, f1, f2, f3, f4, _⟩ hk => ⟨a0, n0, c0, a1, n1, c1, a2, n2, c2, a3, n3, c3, a4, n4, c4, h, f0.keep hk, f1.keep hk, f2.keep hk, f3.keep hk, f4.keep hk, trivial⟩, fun ⟨a0, n0, c0, a1, n1, c1, a2, n2, c2, a3, n3, c3, a4, n4, c4, h, f0, f1, f2, f3, f4, _⟩ hs => ⟨a0, n0, c0, a1, n1, c1, a2, n2, c2, a3, n3, c3, a4, n4, c4, h, f0.wide hs, f1.wide hs, f2.wide hs, f3.wide hs, f4.wide hs, trivial⟩⟩
structure Deal where
  ver : Ver
  face : Int
  deriving DecidableEq, Inhabited
instance : Rep Deal := ⟨3, fun w S cs x => cs = [.int .i64 x.ver.maj, .int .i64 x.ver.min, .int .i64 x.face] ∧ I64 x.ver.maj ∧ I64 x.ver.min ∧ I64 x.face ∧ True,
  fun ⟨h, f0, f1, f2, _⟩ => by simp [h], fun ⟨h, f0, f1, f2, _⟩ hk => ⟨h, f0, f1, f2, trivial⟩, fun ⟨h, f0, f1, f2, _⟩ hs => ⟨h, f0, f1, f2, trivial⟩⟩
structure Link where
  start : ByteArray
  goal : ByteArray
  face : Int
  deriving DecidableEq, Inhabited
instance : Rep Link := ⟨3, fun w S cs x => cs = [.string x.start, .string x.goal, .int .i64 x.face] ∧ x.start.size ≤ maxLen ∧ x.goal.size ≤ maxLen ∧ I64 x.face ∧ True,
  fun ⟨h, f0, f1, f2, _⟩ => by simp [h], fun ⟨h, f0, f1, f2, _⟩ hk => ⟨h, f0, f1, f2, trivial⟩, fun ⟨h, f0, f1, f2, _⟩ hs => ⟨h, f0, f1, f2, trivial⟩⟩
/-- Memory that lies from B on. -/
def Fr (B : Nat) (w : World) : Nat → Prop := fun b => B ≤ b ∧ b < w.heap.size
section
variable {α : Type} [Rep α] {w w' : World} {B B' : Nat} {cs : List Value} {x : α} {a : Option Addr} {len cap : Nat} {xs : List α}
theorem rd_up {w0 : World} (h : Rep.rd w (· < w.heap.size) cs x) (hb : Below w.heap.size w w0) : Rep.rd w0 (· < w0.heap.size) cs x :=
  Rep.wide (Rep.keep h fun b hlt => hb.block b hlt) fun _ hlt => Nat.lt_of_lt_of_le hlt hb.size
theorem rd_fr (h : Rep.rd w (Fr B w) cs x) : Rep.rd w (· < w.heap.size) cs x := Rep.wide h fun _ hb => hb.2
theorem Sl.fr (h : Sl w (Fr B w) a len cap xs) : Sl w (· < w.heap.size) a len cap xs := h.wide fun _ hb => hb.2
theorem Sl.fset (h : Sl w (Fr B w) a len cap xs) {p : Addr} (hp : p.block < B) (u : Value) : Sl (w.setCell p u) (Fr B (w.setCell p u)) a len cap xs :=
  (h.set (p := p) (fun hb => Nat.lt_irrefl _ (Nat.lt_of_lt_of_le hp hb.1)) u).wide fun b hb => ⟨hb.1, by simpa using hb.2⟩
theorem Sl.fbelow (h : Sl w (Fr B w) a len cap xs) (hb : Below w.heap.size w w') : Sl w' (Fr B w') a len cap xs :=
  (h.keep fun b hlt => hb.block b hlt.2).wide fun b hlt => ⟨hlt.1, Nat.lt_of_lt_of_le hlt.2 hb.size⟩
theorem Sl.fwide (h : Sl w (Fr B w) a len cap xs) (hB : B' ≤ B) : Sl w (Fr B' w) a len cap xs := h.wide fun b hb => ⟨Nat.le_trans hB hb.1, hb.2⟩
theorem rd_fwide (h : Rep.rd w (Fr B w) cs x) (hB : B' ≤ B) : Rep.rd w (Fr B' w) cs x := Rep.wide h fun b hb => ⟨Nat.le_trans hB hb.1, hb.2⟩
end
theorem Sl.str {w : World} {S : Nat → Prop} {a : Option Addr} {len cap : Nat} {l : List ByteArray} (h : Sl w S a len cap l) {k : Nat} (hk : k < len) :
    ∃ b o, a = some ⟨b, o, none⟩ ∧ S b ∧ b < w.heap.size ∧ w.cell? ⟨b, o + k, none⟩ = some (.string (nth l k)) ∧ (nth l k).size ≤ maxLen := by
  obtain ⟨b, o, x, cs, ha, hS, hlt, hx, hc, hr⟩ := h.at_ hk
  obtain ⟨rfl, hz⟩ := hr
  rw [nth_of hx]
  exact ⟨b, o, ha, hS, hlt, (by have := hc 0 _ rfl; rwa [show k * Rep.n ByteArray + 0 = k from Nat.mul_one k] at this), hz⟩
theorem Sl.rVer {w : World} {S : Nat → Prop} {a : Option Addr} {len cap : Nat} {l : List Ver} (h : Sl w S a len cap l) {k : Nat} (hk : k < len) :
    ∃ (b o : Nat) , a = some ⟨b, o, none⟩ ∧ S b ∧ b < w.heap.size ∧ w.cell? ⟨b, o + k * 2, none⟩ = some (.int .i64 (nth l k).maj) ∧ w.cell? ⟨b, o + k * 2 + 1, none⟩ = some (.int .i64 (nth l k).min) ∧ Rep.rd w S [.int .i64 (nth l k).maj, .int .i64 (nth l k).min] (nth l k) := by
  obtain ⟨b, o, x, cs, ha, hS, hlt, hx, hc, hr⟩ := h.at_ hk
  have hr0 := hr
  obtain ⟨rfl, _⟩ := hr
  rw [nth_of hx]
  exact ⟨b, o, ha, hS, hlt, hc 0 _ rfl, hc 1 _ rfl, hr0⟩
theorem Sl.rOffer {w : World} {S : Nat → Prop} {a : Option Addr} {len cap : Nat} {l : List Offer} (h : Sl w S a len cap l) {k : Nat} (hk : k < len) :
    ∃ (b o : Nat) (a0 : Option Addr) (n0 c0 : Nat), a = some ⟨b, o, none⟩ ∧ S b ∧ b < w.heap.size ∧ w.cell? ⟨b, o + k * 2, none⟩ = some (.slice a0 n0 c0) ∧ w.cell? ⟨b, o + k * 2 + 1, none⟩ = some (.int .i64 (nth l k).face) ∧ Rep.rd w S [.slice a0 n0 c0, .int .i64 (nth l k).face] (nth l k) := by
  obtain ⟨b, o, x, cs, ha, hS, hlt, hx, hc, hr⟩ := h.at_ hk
  have hr0 := hr
  obtain ⟨a0, n0, c0, rfl, f0, f1, _⟩ := hr
  rw [nth_of hx]
  exact ⟨b, o, a0, n0, c0, ha, hS, hlt, hc 0 _ rfl, hc 1 _ rfl, hr0⟩
theorem Sl.rNeed {w : World} {S : Nat → Prop} {a : Option Addr} {len cap : Nat} {l : List Need} (h : Sl w S a len cap l) {k : Nat} (hk : k < len) :
    ∃ (b o : Nat) , a = some ⟨b, o, none⟩ ∧ S b ∧ b < w.heap.size ∧ w.cell? ⟨b, o + k * 4, none⟩ = some (.int .i64 (nth l k).face) ∧ w.cell? ⟨b, o + k * 4 + 1, none⟩ = some (.string (nth l k).prov) ∧ w.cell? ⟨b, o + k * 4 + 2, none⟩ = some (.int .i64 (nth l k).least.maj) ∧ w.cell? ⟨b, o + k * 4 + 3, none⟩ = some (.int .i64 (nth l k).least.min) ∧ Rep.rd w S [.int .i64 (nth l k).face, .string (nth l k).prov, .int .i64 (nth l k).least.maj, .int .i64 (nth l k).least.min] (nth l k) := by
  obtain ⟨b, o, x, cs, ha, hS, hlt, hx, hc, hr⟩ := h.at_ hk
  have hr0 := hr
  obtain ⟨rfl, f0, f1, f2, f3, _⟩ := hr
  rw [nth_of hx]
  exact ⟨b, o, ha, hS, hlt, hc 0 _ rfl, hc 1 _ rfl, hc 2 _ rfl, hc 3 _ rfl, hr0⟩
theorem Sl.rEntry {w : World} {S : Nat → Prop} {a : Option Addr} {len cap : Nat} {l : List Entry} (h : Sl w S a len cap l) {k : Nat} (hk : k < len) :
    ∃ (b o : Nat) (a1 : Option Addr) (n1 c1 : Nat) (a4 : Option Addr) (n4 c4 : Nat), a = some ⟨b, o, none⟩ ∧ S b ∧ b < w.heap.size ∧ w.cell? ⟨b, o + k * 5, none⟩ = some (.string (nth l k).name) ∧ w.cell? ⟨b, o + k * 5 + 1, none⟩ = some (.slice a1 n1 c1) ∧ w.cell? ⟨b, o + k * 5 + 2, none⟩ = some (.int .i64 (nth l k).ver.maj) ∧ w.cell? ⟨b, o + k * 5 + 3, none⟩ = some (.int .i64 (nth l k).ver.min) ∧ w.cell? ⟨b, o + k * 5 + 4, none⟩ = some (.slice a4 n4 c4) ∧ Rep.rd w S [.string (nth l k).name, .slice a1 n1 c1, .int .i64 (nth l k).ver.maj, .int .i64 (nth l k).ver.min, .slice a4 n4 c4] (nth l k) := by
  obtain ⟨b, o, x, cs, ha, hS, hlt, hx, hc, hr⟩ := h.at_ hk
  have hr0 := hr
  obtain ⟨a1, n1, c1, a4, n4, c4, rfl, f0, f1, f2, f3, f4, _⟩ := hr
  rw [nth_of hx]
  exact ⟨b, o, a1, n1, c1, a4, n4, c4, ha, hS, hlt, hc 0 _ rfl, hc 1 _ rfl, hc 2 _ rfl, hc 3 _ rfl, hc 4 _ rfl, hr0⟩
theorem Sl.rCell {w : World} {S : Nat → Prop} {a : Option Addr} {len cap : Nat} {l : List Cell} (h : Sl w S a len cap l) {k : Nat} (hk : k < len) :
    ∃ (b o : Nat) , a = some ⟨b, o, none⟩ ∧ S b ∧ b < w.heap.size ∧ w.cell? ⟨b, o + k * 2, none⟩ = some (.string (nth l k).key) ∧ w.cell? ⟨b, o + k * 2 + 1, none⟩ = some (.int .i64 (nth l k).value) ∧ Rep.rd w S [.string (nth l k).key, .int .i64 (nth l k).value] (nth l k) := by
  obtain ⟨b, o, x, cs, ha, hS, hlt, hx, hc, hr⟩ := h.at_ hk
  have hr0 := hr
  obtain ⟨rfl, f0, f1, _⟩ := hr
  rw [nth_of hx]
  exact ⟨b, o, ha, hS, hlt, hc 0 _ rfl, hc 1 _ rfl, hr0⟩
theorem Sl.rCore {w : World} {S : Nat → Prop} {a : Option Addr} {len cap : Nat} {l : List Core} (h : Sl w S a len cap l) {k : Nat} (hk : k < len) :
    ∃ (b o : Nat) (a3 : Option Addr) (n3 c3 : Nat), a = some ⟨b, o, none⟩ ∧ S b ∧ b < w.heap.size ∧ w.cell? ⟨b, o + k * 5, none⟩ = some (.string (nth l k).kind) ∧ w.cell? ⟨b, o + k * 5 + 1, none⟩ = some (.bool (nth l k).on) ∧ w.cell? ⟨b, o + k * 5 + 2, none⟩ = some (.bool (nth l k).broken) ∧ w.cell? ⟨b, o + k * 5 + 3, none⟩ = some (.slice a3 n3 c3) ∧ w.cell? ⟨b, o + k * 5 + 4, none⟩ = some (.int .i64 (nth l k).count) ∧ Rep.rd w S [.string (nth l k).kind, .bool (nth l k).on, .bool (nth l k).broken, .slice a3 n3 c3, .int .i64 (nth l k).count] (nth l k) := by
  obtain ⟨b, o, x, cs, ha, hS, hlt, hx, hc, hr⟩ := h.at_ hk
  have hr0 := hr
  obtain ⟨a3, n3, c3, rfl, f0, f3, f4, _⟩ := hr
  rw [nth_of hx]
  exact ⟨b, o, a3, n3, c3, ha, hS, hlt, hc 0 _ rfl, hc 1 _ rfl, hc 2 _ rfl, hc 3 _ rfl, hc 4 _ rfl, hr0⟩
theorem Sl.rCallD {w : World} {S : Nat → Prop} {a : Option Addr} {len cap : Nat} {l : List CallD} (h : Sl w S a len cap l) {k : Nat} (hk : k < len) :
    ∃ (b o : Nat) , a = some ⟨b, o, none⟩ ∧ S b ∧ b < w.heap.size ∧ w.cell? ⟨b, o + k * 4, none⟩ = some (.string (nth l k).method) ∧ w.cell? ⟨b, o + k * 4 + 1, none⟩ = some (.string (nth l k).key) ∧ w.cell? ⟨b, o + k * 4 + 2, none⟩ = some (.int .i64 (nth l k).value) ∧ w.cell? ⟨b, o + k * 4 + 3, none⟩ = some (.string (nth l k).text) ∧ Rep.rd w S [.string (nth l k).method, .string (nth l k).key, .int .i64 (nth l k).value, .string (nth l k).text] (nth l k) := by
  obtain ⟨b, o, x, cs, ha, hS, hlt, hx, hc, hr⟩ := h.at_ hk
  have hr0 := hr
  obtain ⟨rfl, f0, f1, f2, f3, _⟩ := hr
  rw [nth_of hx]
  exact ⟨b, o, ha, hS, hlt, hc 0 _ rfl, hc 1 _ rfl, hc 2 _ rfl, hc 3 _ rfl, hr0⟩
theorem Sl.rReply {w : World} {S : Nat → Prop} {a : Option Addr} {len cap : Nat} {l : List Reply} (h : Sl w S a len cap l) {k : Nat} (hk : k < len) :
    ∃ (b o : Nat) , a = some ⟨b, o, none⟩ ∧ S b ∧ b < w.heap.size ∧ w.cell? ⟨b, o + k * 5, none⟩ = some (.int .i64 (nth l k).code) ∧ w.cell? ⟨b, o + k * 5 + 1, none⟩ = some (.int .i64 (nth l k).value) ∧ w.cell? ⟨b, o + k * 5 + 2, none⟩ = some (.string (nth l k).text) ∧ w.cell? ⟨b, o + k * 5 + 3, none⟩ = some (.int .i64 (nth l k).want) ∧ w.cell? ⟨b, o + k * 5 + 4, none⟩ = some (.int .i64 (nth l k).had) ∧ Rep.rd w S [.int .i64 (nth l k).code, .int .i64 (nth l k).value, .string (nth l k).text, .int .i64 (nth l k).want, .int .i64 (nth l k).had] (nth l k) := by
  obtain ⟨b, o, x, cs, ha, hS, hlt, hx, hc, hr⟩ := h.at_ hk
  have hr0 := hr
  obtain ⟨rfl, f0, f1, f2, f3, f4, _⟩ := hr
  rw [nth_of hx]
  exact ⟨b, o, ha, hS, hlt, hc 0 _ rfl, hc 1 _ rfl, hc 2 _ rfl, hc 3 _ rfl, hc 4 _ rfl, hr0⟩
theorem Sl.rLayer {w : World} {S : Nat → Prop} {a : Option Addr} {len cap : Nat} {l : List Layer} (h : Sl w S a len cap l) {k : Nat} (hk : k < len) :
    ∃ (b o : Nat) , a = some ⟨b, o, none⟩ ∧ S b ∧ b < w.heap.size ∧ w.cell? ⟨b, o + k * 2, none⟩ = some (.string (nth l k).name) ∧ w.cell? ⟨b, o + k * 2 + 1, none⟩ = some (.int .i64 (nth l k).count) ∧ Rep.rd w S [.string (nth l k).name, .int .i64 (nth l k).count] (nth l k) := by
  obtain ⟨b, o, x, cs, ha, hS, hlt, hx, hc, hr⟩ := h.at_ hk
  have hr0 := hr
  obtain ⟨rfl, f0, f1, _⟩ := hr
  rw [nth_of hx]
  exact ⟨b, o, ha, hS, hlt, hc 0 _ rfl, hc 1 _ rfl, hr0⟩
theorem Sl.rPart {w : World} {S : Nat → Prop} {a : Option Addr} {len cap : Nat} {l : List Part} (h : Sl w S a len cap l) {k : Nat} (hk : k < len) :
    ∃ (b o : Nat) (a3 : Option Addr) (n3 c3 : Nat) (a5 : Option Addr) (n5 c5 : Nat), a = some ⟨b, o, none⟩ ∧ S b ∧ b < w.heap.size ∧ w.cell? ⟨b, o + k * 6, none⟩ = some (.string (nth l k).core.kind) ∧ w.cell? ⟨b, o + k * 6 + 1, none⟩ = some (.bool (nth l k).core.on) ∧ w.cell? ⟨b, o + k * 6 + 2, none⟩ = some (.bool (nth l k).core.broken) ∧ w.cell? ⟨b, o + k * 6 + 3, none⟩ = some (.slice a3 n3 c3) ∧ w.cell? ⟨b, o + k * 6 + 4, none⟩ = some (.int .i64 (nth l k).core.count) ∧ w.cell? ⟨b, o + k * 6 + 5, none⟩ = some (.slice a5 n5 c5) ∧ Rep.rd w S [.string (nth l k).core.kind, .bool (nth l k).core.on, .bool (nth l k).core.broken, .slice a3 n3 c3, .int .i64 (nth l k).core.count, .slice a5 n5 c5] (nth l k) := by
  obtain ⟨b, o, x, cs, ha, hS, hlt, hx, hc, hr⟩ := h.at_ hk
  have hr0 := hr
  obtain ⟨a3, n3, c3, a5, n5, c5, rfl, f0, f3, f4, f5, _⟩ := hr
  rw [nth_of hx]
  exact ⟨b, o, a3, n3, c3, a5, n5, c5, ha, hS, hlt, hc 0 _ rfl, hc 1 _ rfl, hc 2 _ rfl, hc 3 _ rfl, hc 4 _ rfl, hc 5 _ rfl, hr0⟩
theorem Sl.rEvent {w : World} {S : Nat → Prop} {a : Option Addr} {len cap : Nat} {l : List Event} (h : Sl w S a len cap l) {k : Nat} (hk : k < len) :
    ∃ (b o : Nat) (a6 : Option Addr) (n6 c6 : Nat), a = some ⟨b, o, none⟩ ∧ S b ∧ b < w.heap.size ∧ w.cell? ⟨b, o + k * 7, none⟩ = some (.int .i64 (nth l k).kind) ∧ w.cell? ⟨b, o + k * 7 + 1, none⟩ = some (.string (nth l k).name) ∧ w.cell? ⟨b, o + k * 7 + 2, none⟩ = some (.string (nth l k).call.method) ∧ w.cell? ⟨b, o + k * 7 + 3, none⟩ = some (.string (nth l k).call.key) ∧ w.cell? ⟨b, o + k * 7 + 4, none⟩ = some (.int .i64 (nth l k).call.value) ∧ w.cell? ⟨b, o + k * 7 + 5, none⟩ = some (.string (nth l k).call.text) ∧ w.cell? ⟨b, o + k * 7 + 6, none⟩ = some (.slice a6 n6 c6) ∧ Rep.rd w S [.int .i64 (nth l k).kind, .string (nth l k).name, .string (nth l k).call.method, .string (nth l k).call.key, .int .i64 (nth l k).call.value, .string (nth l k).call.text, .slice a6 n6 c6] (nth l k) := by
  obtain ⟨b, o, x, cs, ha, hS, hlt, hx, hc, hr⟩ := h.at_ hk
  have hr0 := hr
  obtain ⟨a6, n6, c6, rfl, f0, f1, f2, f3, f4, f5, f6, _⟩ := hr
  rw [nth_of hx]
  exact ⟨b, o, a6, n6, c6, ha, hS, hlt, hc 0 _ rfl, hc 1 _ rfl, hc 2 _ rfl, hc 3 _ rfl, hc 4 _ rfl, hc 5 _ rfl, hc 6 _ rfl, hr0⟩
theorem Sl.rHost {w : World} {S : Nat → Prop} {a : Option Addr} {len cap : Nat} {l : List Host} (h : Sl w S a len cap l) {k : Nat} (hk : k < len) :
    ∃ (b o : Nat) (a0 : Option Addr) (n0 c0 : Nat) (a1 : Option Addr) (n1 c1 : Nat) (a2 : Option Addr) (n2 c2 : Nat) (a3 : Option Addr) (n3 c3 : Nat) (a4 : Option Addr) (n4 c4 : Nat), a = some ⟨b, o, none⟩ ∧ S b ∧ b < w.heap.size ∧ w.cell? ⟨b, o + k * 5, none⟩ = some (.slice a0 n0 c0) ∧ w.cell? ⟨b, o + k * 5 + 1, none⟩ = some (.slice a1 n1 c1) ∧ w.cell? ⟨b, o + k * 5 + 2, none⟩ = some (.slice a2 n2 c2) ∧ w.cell? ⟨b, o + k * 5 + 3, none⟩ = some (.slice a3 n3 c3) ∧ w.cell? ⟨b, o + k * 5 + 4, none⟩ = some (.slice a4 n4 c4) ∧ Rep.rd w S [.slice a0 n0 c0, .slice a1 n1 c1, .slice a2 n2 c2, .slice a3 n3 c3, .slice a4 n4 c4] (nth l k) := by
  obtain ⟨b, o, x, cs, ha, hS, hlt, hx, hc, hr⟩ := h.at_ hk
  have hr0 := hr
  obtain ⟨a0, n0, c0, a1, n1, c1, a2, n2, c2, a3, n3, c3, a4, n4, c4, rfl, f0, f1, f2, f3, f4, _⟩ := hr
  rw [nth_of hx]
  exact ⟨b, o, a0, n0, c0, a1, n1, c1, a2, n2, c2, a3, n3, c3, a4, n4, c4, ha, hS, hlt, hc 0 _ rfl, hc 1 _ rfl, hc 2 _ rfl, hc 3 _ rfl, hc 4 _ rfl, hr0⟩
theorem Sl.rDeal {w : World} {S : Nat → Prop} {a : Option Addr} {len cap : Nat} {l : List Deal} (h : Sl w S a len cap l) {k : Nat} (hk : k < len) :
    ∃ (b o : Nat) , a = some ⟨b, o, none⟩ ∧ S b ∧ b < w.heap.size ∧ w.cell? ⟨b, o + k * 3, none⟩ = some (.int .i64 (nth l k).ver.maj) ∧ w.cell? ⟨b, o + k * 3 + 1, none⟩ = some (.int .i64 (nth l k).ver.min) ∧ w.cell? ⟨b, o + k * 3 + 2, none⟩ = some (.int .i64 (nth l k).face) ∧ Rep.rd w S [.int .i64 (nth l k).ver.maj, .int .i64 (nth l k).ver.min, .int .i64 (nth l k).face] (nth l k) := by
  obtain ⟨b, o, x, cs, ha, hS, hlt, hx, hc, hr⟩ := h.at_ hk
  have hr0 := hr
  obtain ⟨rfl, f0, f1, f2, _⟩ := hr
  rw [nth_of hx]
  exact ⟨b, o, ha, hS, hlt, hc 0 _ rfl, hc 1 _ rfl, hc 2 _ rfl, hr0⟩
theorem Sl.rLink {w : World} {S : Nat → Prop} {a : Option Addr} {len cap : Nat} {l : List Link} (h : Sl w S a len cap l) {k : Nat} (hk : k < len) :
    ∃ (b o : Nat) , a = some ⟨b, o, none⟩ ∧ S b ∧ b < w.heap.size ∧ w.cell? ⟨b, o + k * 3, none⟩ = some (.string (nth l k).start) ∧ w.cell? ⟨b, o + k * 3 + 1, none⟩ = some (.string (nth l k).goal) ∧ w.cell? ⟨b, o + k * 3 + 2, none⟩ = some (.int .i64 (nth l k).face) ∧ Rep.rd w S [.string (nth l k).start, .string (nth l k).goal, .int .i64 (nth l k).face] (nth l k) := by
  obtain ⟨b, o, x, cs, ha, hS, hlt, hx, hc, hr⟩ := h.at_ hk
  have hr0 := hr
  obtain ⟨rfl, f0, f1, f2, _⟩ := hr
  rw [nth_of hx]
  exact ⟨b, o, ha, hS, hlt, hc 0 _ rfl, hc 1 _ rfl, hc 2 _ rfl, hr0⟩
class Sz (α : Type) where
  of : α → Nat
def sz {α : Type} [Sz α] (x : α) : Nat := Sz.of x
instance : Sz Int := ⟨fun _ => 0⟩
instance : Sz Bool := ⟨fun _ => 0⟩
instance : Sz ByteArray := ⟨fun s => s.size⟩
section
variable {α : Type} [Sz α] [Inhabited α]
def szTo (l : List α) : Nat → Nat
  | 0 => 0
  | k + 1 => szTo l k + sz (nth l k)
theorem szTo_mono (l : List α) {k m : Nat} (h : k ≤ m) : szTo l k ≤ szTo l m := by
  induction m with
  | zero => obtain rfl : k = 0 := by omega
            exact Nat.le_refl _
  | succ m ih =>
    by_cases e : k = m + 1
    · subst e; exact Nat.le_refl _
    · have := ih (by omega); simp only [szTo]; omega
theorem szTo_at (l : List α) {k : Nat} (h : k < l.length) : sz (nth l k) ≤ szTo l l.length := by
  have := szTo_mono l (show k + 1 ≤ l.length by omega)
  simp only [szTo] at this; omega
instance : Sz (List α) := ⟨fun l => l.length + szTo l l.length⟩
end
theorem sz_int (x : Int) : sz x = 0 := rfl
theorem sz_bool (x : Bool) : sz x = 0 := rfl
theorem sz_bytes (x : ByteArray) : sz x = x.size := rfl
theorem str_eqB (x y : ByteArray) : (x.toList == y.toList) = eqB x y := by
  rw [Bool.eq_iff_iff, ByteArray.toList_eq, ByteArray.toList_eq]
  simp only [eqB, beq_iff_eq, decide_eq_true_eq]
  exact ⟨fun h => by cases x; cases y; simp_all [Array.toList_inj], fun h => by rw [h]⟩
theorem val_int {a b : Int} (h : a = b) : Value.int .i64 a = .int .i64 b := by rw [h]
theorem sz_list {α : Type} [Sz α] [Inhabited α] (l : List α) : sz l = l.length + szTo l l.length := rfl
theorem sz_at {α : Type} [Sz α] [Inhabited α] {l : List α} {k n : Nat} (h : sz l ≤ n) (hk : k < l.length) : sz (nth l k) ≤ n := by
  have := szTo_at l hk; rw [sz_list] at h; omega
theorem sz_len {α : Type} [Sz α] [Inhabited α] {l : List α} {n : Nat} (h : sz l ≤ n) : l.length ≤ n := by rw [sz_list] at h; omega
def szF (n : Int) (k : Nat) : Int := if n - (k : Int) < 0 then -1 else n - (k : Int)
theorem szF_neg {n : Int} {k : Nat} (h : n - (k : Int) < 0) : szF n k = -1 := by simp [szF, h]
theorem szF_pos {n : Int} {k : Nat} (h : ¬ n - (k : Int) < 0) : szF n k = n - (k : Int) := by simp [szF, h]
instance : Sz Ver := ⟨fun x => sz x.maj + sz x.min⟩
theorem sz_Ver (x : Ver) : sz x = sz x.maj + sz x.min := rfl
instance : Sz Offer := ⟨fun x => sz x.vers + sz x.face⟩
theorem sz_Offer (x : Offer) : sz x = sz x.vers + sz x.face := rfl
instance : Sz Need := ⟨fun x => sz x.face + sz x.prov + sz x.least⟩
theorem sz_Need (x : Need) : sz x = sz x.face + sz x.prov + sz x.least := rfl
instance : Sz Entry := ⟨fun x => sz x.name + sz x.recipe + sz x.ver + sz x.needs⟩
theorem sz_Entry (x : Entry) : sz x = sz x.name + sz x.recipe + sz x.ver + sz x.needs := rfl
instance : Sz Cell := ⟨fun x => sz x.key + sz x.value⟩
theorem sz_Cell (x : Cell) : sz x = sz x.key + sz x.value := rfl
instance : Sz Core := ⟨fun x => sz x.kind + sz x.on + sz x.broken + sz x.cells + sz x.count⟩
theorem sz_Core (x : Core) : sz x = sz x.kind + sz x.on + sz x.broken + sz x.cells + sz x.count := rfl
instance : Sz CallD := ⟨fun x => sz x.method + sz x.key + sz x.value + sz x.text⟩
theorem sz_CallD (x : CallD) : sz x = sz x.method + sz x.key + sz x.value + sz x.text := rfl
instance : Sz Reply := ⟨fun x => sz x.code + sz x.value + sz x.text + sz x.want + sz x.had⟩
theorem sz_Reply (x : Reply) : sz x = sz x.code + sz x.value + sz x.text + sz x.want + sz x.had := rfl
instance : Sz Layer := ⟨fun x => sz x.name + sz x.count⟩
theorem sz_Layer (x : Layer) : sz x = sz x.name + sz x.count := rfl
instance : Sz Part := ⟨fun x => sz x.core + sz x.layers⟩
theorem sz_Part (x : Part) : sz x = sz x.core + sz x.layers := rfl
instance : Sz Event := ⟨fun x => sz x.kind + sz x.name + sz x.call + sz x.recipe⟩
theorem sz_Event (x : Event) : sz x = sz x.kind + sz x.name + sz x.call + sz x.recipe := rfl
instance : Sz Host := ⟨fun x => sz x.entries + sz x.parts + sz x.up + sz x.shut + sz x.log⟩
theorem sz_Host (x : Host) : sz x = sz x.entries + sz x.parts + sz x.up + sz x.shut + sz x.log := rfl
instance : Sz Deal := ⟨fun x => sz x.ver + sz x.face⟩
theorem sz_Deal (x : Deal) : sz x = sz x.ver + sz x.face := rfl
instance : Sz Link := ⟨fun x => sz x.start + sz x.goal + sz x.face⟩
theorem sz_Link (x : Link) : sz x = sz x.start + sz x.goal + sz x.face := rfl
theorem eqB_Ver (x y : Ver) : eqB x y = ((eqB x.maj y.maj && (eqB x.min y.min))) := by cases x; cases y; simp [eqB, Bool.decide_and]
theorem eqB_Offer (x y : Offer) : eqB x y = ((eqB x.vers y.vers && (eqB x.face y.face))) := by cases x; cases y; simp [eqB, Bool.decide_and]
theorem eqB_Need (x y : Need) : eqB x y = ((eqB x.face y.face && (eqB x.prov y.prov && (eqB x.least y.least)))) := by cases x; cases y; simp [eqB, Bool.decide_and]
theorem eqB_Entry (x y : Entry) : eqB x y = ((eqB x.name y.name && (eqB x.recipe y.recipe && (eqB x.ver y.ver && (eqB x.needs y.needs))))) := by cases x; cases y; simp [eqB, Bool.decide_and]
theorem eqB_Cell (x y : Cell) : eqB x y = ((eqB x.key y.key && (eqB x.value y.value))) := by cases x; cases y; simp [eqB, Bool.decide_and]
theorem eqB_Core (x y : Core) : eqB x y = ((eqB x.kind y.kind && (eqB x.on y.on && (eqB x.broken y.broken && (eqB x.cells y.cells && (eqB x.count y.count)))))) := by cases x; cases y; simp [eqB, Bool.decide_and]
theorem eqB_CallD (x y : CallD) : eqB x y = ((eqB x.method y.method && (eqB x.key y.key && (eqB x.value y.value && (eqB x.text y.text))))) := by cases x; cases y; simp [eqB, Bool.decide_and]
theorem eqB_Reply (x y : Reply) : eqB x y = ((eqB x.code y.code && (eqB x.value y.value && (eqB x.text y.text && (eqB x.want y.want && (eqB x.had y.had)))))) := by cases x; cases y; simp [eqB, Bool.decide_and]
theorem eqB_Layer (x y : Layer) : eqB x y = ((eqB x.name y.name && (eqB x.count y.count))) := by cases x; cases y; simp [eqB, Bool.decide_and]
theorem eqB_Part (x y : Part) : eqB x y = ((eqB x.core y.core && (eqB x.layers y.layers))) := by cases x; cases y; simp [eqB, Bool.decide_and]
theorem eqB_Event (x y : Event) : eqB x y = ((eqB x.kind y.kind && (eqB x.name y.name && (eqB x.call y.call && (eqB x.recipe y.recipe))))) := by cases x; cases y; simp [eqB, Bool.decide_and]
theorem eqB_Host (x y : Host) : eqB x y = ((eqB x.entries y.entries && (eqB x.parts y.parts && (eqB x.up y.up && (eqB x.shut y.shut && (eqB x.log y.log)))))) := by cases x; cases y; simp [eqB, Bool.decide_and]
theorem eqB_Deal (x y : Deal) : eqB x y = ((eqB x.ver y.ver && (eqB x.face y.face))) := by cases x; cases y; simp [eqB, Bool.decide_and]
theorem eqB_Link (x y : Link) : eqB x y = ((eqB x.start y.start && (eqB x.goal y.goal && (eqB x.face y.face)))) := by cases x; cases y; simp [eqB, Bool.decide_and]
end Go.Proofs.Ythoilclddnjjjaa
