/- Walks of the methods Get, Unset and Set of vars.Vars. -/
import Derived.Test.YtpmhkgjplghldaaVarsWalkA
import Derived.Test.YtpmhkgjplghldaaShelf
import Derived.Test.YtpmhkgjplghldaaMapG
import Derived.Test.YtpmhkgjplghldaaSep
import Derived.Maps.OwnSet
import Derived.Maps.StringElems
import Derived.Maps.Views
import Derived.StringKeys
namespace Go.Proofs.Ytpmhkgjplghldaa
open Go.RowKit Go.Deep Go.Maps
attribute [local go_sem] bt_eq

abbrev VD := DataW Unit
def sDat (s : ByteArray) : VD := .lit (.string s.data.toList)
theorem sDat_inj {a b : ByteArray} (h : sDat a = sDat b) : a = b := by
  injection h with h
  injection h with h
  exact ByteArray.ext (Array.ext' h)
theorem skeyed : Keyed Try.prog 9 := string_keyed Try.underlying9
theorem szero (w : World) : (zeroValue 9).run Try.prog w = .ok (.string ⟨#[]⟩) w := by kernel_rfl
theorem skey {s : ByteArray} (h : s.size ≤ 9223372036854775807) : keyOf Try.prog 9 (.string s) = some (kLit s) := Go.WideMaps.keyOf_string_mk Try.underlying9 (by unfold maxLen; omega)
theorem selem {s : ByteArray} (h : s.size ≤ 9223372036854775807) : plainElem (H := Unit) Try.prog 9 (.string s) = some (sDat s, []) := plainElem_string Try.underlying9 (by unfold maxLen; omega)
/-- a map value reads as D -/
def MVal (w : World) (mv : Value) (D : VD) : Prop := (mv = .map none ∧ D = .map []) ∨ ∃ b, mv = .map (some b) ∧ w.ownsMap Try.prog 9 (plainElem Try.prog 9) b (Maps.size D) D
theorem own_tight {w : World} {b n : Nat} {D : VD} (h : w.ownsMap Try.prog 9 (plainElem Try.prog 9) b n D) : w.ownsMap Try.prog 9 (plainElem Try.prog 9) b (Maps.size D) D := by
  obtain ⟨es, clock, h1, h2, h3, rfl⟩ := h
  exact ⟨es, clock, h1, h2, by simp [Maps.size, length_sorted], rfl⟩
theorem MVal.kept {w w' : World} {S : Nat → Prop} {mv : Value} {D : VD} (h : MVal w mv D) (hk : Kp w w' S) (hS : ∀ b, mv = .map (some b) → ¬ S b) : MVal w' mv D := by
  rcases h with h | ⟨b, rfl, h⟩
  · exact .inl h
  · obtain ⟨es, clock, h1, h2⟩ := h
    exact .inr ⟨b, rfl, es, clock, (hk.block b (Array.getElem?_eq_some_iff.1 h1).1 (hS b rfl)).trans h1, h2⟩
theorem mlook {w : World} {mv : Value} {D : VD} (h : MVal w mv D) {s : ByteArray} (hs : s.size ≤ 9223372036854775807) :
    ∃ sv : ByteArray, sv.size ≤ maxLen ∧ (Instr.lookup 24 mv (.string s) true).run Try.prog w = .ok (.tuple #[.string sv, .bool (Maps.has D (kLit s))]) w ∧ D.atKey (kLit s) (sDat ⟨#[]⟩) = sDat sv := by
  rcases h with ⟨rfl, rfl⟩ | ⟨b, rfl, h⟩
  · exact ⟨⟨#[]⟩, by decide, look_nil true skeyed Try.underlying24 (szero w) (skey hs), rfl⟩
  · obtain ⟨v, ps, hrun, hv⟩ := h.look_ok skeyed Try.underlying24 (szero w) (selem (s := ⟨#[]⟩) (by decide)) (skey hs)
    obtain ⟨sv, rfl, e, hl⟩ := plainElem_string_inv Try.underlying9 hv
    injection e with e1 e2
    exact ⟨sv, hl, hrun, e1⟩
theorem mlen {w : World} {mv : Value} {D : VD} (h : MVal w mv D) (ty : TypeId) : (Builtin.len_ #[24] ty #[mv]).run Try.prog w = .ok (.int .i64 (Maps.size D)) w := by
  rcases h with ⟨rfl, rfl⟩ | ⟨b, rfl, h⟩
  · exact len_nil Try.underlying24 ty
  · exact h.len Try.underlying24 ty
theorem turned_kp {w w' : World} {b : Nat} (h : w.mapTurned w' b) : Kp w w' (fun k => k = b) :=
  ⟨h.grown.os, h.grown.tape, h.grown.output, h.grown.size, fun k hk hne => h.grown.block k hk (by intro e; injection e with e; exact hne e)⟩
theorem mdrop {w : World} {mv : Value} {D : VD} (h : MVal w mv D) {s : ByteArray} (hs : s.size ≤ 9223372036854775807) (ty : TypeId) :
    ∃ w', (Builtin.delete_ #[24, 9] ty #[mv, .string s]).run Try.prog w = .ok (.tuple #[]) w' ∧ MVal w' mv (D.del (kLit s)) ∧ Kp w w' (fun k => mv = .map (some k)) := by
  rcases h with ⟨rfl, rfl⟩ | ⟨b, rfl, h⟩
  · exact ⟨w, drop_nil skeyed Try.underlying24 (skey hs) ty, .inl ⟨rfl, rfl⟩, rfl, rfl, rfl, Nat.le_refl _, fun _ _ _ => rfl⟩
  · obtain ⟨w', h1, h2, h3⟩ := h.drop skeyed Try.underlying24 (skey hs) ty
    have hk := turned_kp h3
    exact ⟨w', h1, .inr ⟨b, rfl, own_tight h2⟩, hk.os, hk.tape, hk.output, hk.size, fun k hk' hne => hk.block k hk' (fun e => hne (by rw [e]))⟩
theorem mstore {w : World} {b : Nat} {D : VD} (h : w.ownsMap Try.prog 9 (plainElem Try.prog 9) b (Maps.size D) D) (hsz : Maps.size D ≤ 100000) {s v : ByteArray} (hs : s.size ≤ 9223372036854775807) (hv : v.size ≤ 9223372036854775807) :
    ∃ w', (Instr.mapUpdate 24 (.map (some b)) (.string s) (.string v)).run Try.prog w = .ok () w' ∧ MVal w' (.map (some b)) (D.put (kLit s) (sDat v)) ∧ Kp w w' (fun k => k = b) := by
  obtain ⟨w', h1, h2, h3⟩ := h.store skeyed Try.underlying24 (by unfold maxLen; omega) (skey hs) (selem hv)
  exact ⟨w', h1, .inr ⟨b, rfl, own_tight h2⟩, turned_kp h3⟩

set_option maxRecDepth 100000 in
set_option maxHeartbeats 400000 in
theorem vget_any (g : Nat) (mv : Value) (D : VD) (name : ByteArray) (w : World) (hs : name.size ≤ 9223372036854775807) (hc : w.cell? ⟨g, 0, none⟩ = some mv) (hm : MVal w mv D) :
    ∃ sv : ByteArray, D.atKey (kLit name) (sDat ⟨#[]⟩) = sDat sv ∧ Calls Try.prog 11 #[.pointer (some ⟨g, 0, none⟩), .string name] w fun e w' => e = .returned (.tuple #[.string sv, .bool (Maps.has D (kLit name))]) ∧ w = w' := by
  obtain ⟨sv, _, hrun, hat⟩ := mlook hm hs
  refine ⟨sv, hat, ?_⟩
  generalize Maps.has D (kLit name) = hb at hrun ⊢
  clear hat hm
  go_enter Try.func11, Try.ntmps11
  go_wp2
  go_ret2
  exact ⟨rfl, rfl⟩
set_option maxRecDepth 100000 in
set_option maxHeartbeats 400000 in
theorem vunset_any (g : Nat) (mv : Value) (D : VD) (name : ByteArray) (w : World) (hs : name.size ≤ 9223372036854775807) (hc : w.cell? ⟨g, 0, none⟩ = some mv) (hm : MVal w mv D) :
    Calls Try.prog 7 #[.pointer (some ⟨g, 0, none⟩), .string name] w fun e w' => e = .returned (.tuple #[]) ∧ MVal w' mv (D.del (kLit name)) ∧ Kp w w' (fun k => mv = .map (some k)) := by
  obtain ⟨w1, hrun, hm1, hk1⟩ := mdrop hm hs 0
  have HM := hide hm1
  have HK := hide hk1
  clear hm hm1 hk1
  go_enter Try.func7, Try.ntmps7
  go_wp2
  go_end0
  exact ⟨rfl, HM.out, HK.out⟩
end Go.Proofs.Ytpmhkgjplghldaa
