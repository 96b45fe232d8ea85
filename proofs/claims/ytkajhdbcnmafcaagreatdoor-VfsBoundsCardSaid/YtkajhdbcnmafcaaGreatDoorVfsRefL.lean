/- Walk of the reference's Move. -/
import Derived.Test.YtkajhdbcnmafcaaGreatDoorVfsRefK
namespace Go.Proofs.YtkajhdbcnmafcaaGreatDoor
open Go.RowKit Go.Deep Go.Maps Ln Pth Vf
set_option linter.unusedSimpArgs false
set_option linter.unusedVariables false
attribute [local go_sem] bt_eq

def inF (x : T) (z : NV) : Bool := withinF x z.1.data.toList
def mvN (x y : T) (z : NV) : NV := (bs (tgt x y z.1.data.toList), z.2)
def rmvN (x y : T) (P : List NV) : List NV := (P.filter (inF x)).map (mvN x y)
def rvalN (y : T) (t : Nat) (z : NV) : NV := (z.1, ⟨z.2.A, z.2.c, rvalM y t (z.1, z.2.nd)⟩)
def rfoldN (y : T) (t : Nat) (M Q : List NV) : List NV := M.foldl (fun Q z => putG (rvalN y t z) Q) Q
theorem strip_fold (y : T) (t : Nat) : ∀ (M Q : List NV), stripN (rfoldN y t M Q) = (stripN M).foldl (fun Q z => putG (z.1, rvalM y t z) Q) (stripN Q)
  | [], Q => rfl
  | z :: M, Q => by
    have ih := strip_fold y t M (putG (rvalN y t z) Q)
    rw [strip_put] at ih
    exact ih
theorem strip_rmv (x y : T) (P : List NV) : stripN (rmvN x y P) = rmvL (stripN P) x y := by
  unfold rmvN rmvL
  have := strip_filter (fun k => withinF x k.data.toList) P
  rw [← this]
  unfold stripN
  rw [List.map_map, List.map_map]
  rfl
theorem strip_out (x y : T) (P : List NV) : stripN ((P.filter (outF x)).filter (outF y)) = routM (stripN P) x y := by
  unfold routM
  have h1 := strip_filter (fun k => !withinF x k.data.toList) P
  have h2 := strip_filter (fun k => !withinF y k.data.toList) (P.filter (outF x))
  rw [← h1]
  exact h2
theorem rmove_strip (x y : T) (t : Nat) (P : List NV) : stripN (rfoldN y t (rmvN x y P) ((P.filter (outF x)).filter (outF y))) = rmoveM (stripN P) x y t := by
  rw [strip_fold, strip_rmv, strip_out]
  rfl
theorem rfold_take {y : T} {t : Nat} {M Q : List NV} {i : Nat} {z : NV} (h : M[i]? = some z) : rfoldN y t (M.take (i + 1)) Q = putG (rvalN y t z) (rfoldN y t (M.take i) Q) := by
  rw [List.take_add_one, h]
  unfold rfoldN
  rw [List.foldl_append]
  rfl
theorem putG_lenL {α : Type} (x : ByteArray × α) : ∀ P : KV α, (putG x P).length ≤ P.length + 1
  | [] => by simp [putG]
  | y :: P => by
    have := putG_lenL x P
    rw [putG]
    split
    · simp only [List.length_cons]; omega
    · split <;> simp
theorem rfold_len (y : T) (t : Nat) : ∀ M Q : List NV, (rfoldN y t M Q).length ≤ Q.length + M.length
  | [], Q => by simp [rfoldN]
  | z :: M, Q => by
    have h1 := rfold_len y t M (putG (rvalN y t z) Q)
    have h2 := putG_lenL (rvalN y t z) Q
    show (rfoldN y t M (putG (rvalN y t z) Q)).length ≤ _
    rw [List.length_cons]
    omega
theorem filt_both {α : Type} (p : α → Bool) : ∀ P : List α, (P.filter p).length + (P.filter fun z => !p z).length = P.length
  | [] => rfl
  | x :: P => by
    have := filt_both p P
    rw [List.filter_cons, List.filter_cons]
    cases p x <;> simp <;> omega
theorem parts_len {x y : T} {P : List NV} : ((P.filter (outF x)).filter (outF y)).length + (rmvN x y P).length ≤ P.length := by
  have h1 := filt_both (inF x) P
  have h2 := List.length_filter_le (outF y) (P.filter (outF x))
  unfold rmvN
  rw [List.length_map]
  have h3 : (P.filter (outF x)).length = (P.filter fun z => !inF x z).length := rfl
  omega
theorem rmv_take {x y : T} {P : List NV} {k : Nat} {z : NV} (h : P[k]? = some z) : rmvN x y (P.take (k + 1)) = rmvN x y (P.take k) ++ if inF x z = true then [mvN x y z] else [] := by
  unfold rmvN
  rw [filter_take h, List.map_append]
  congr 1
  split <;> rfl
/-- where a moved node's bytes lie -/
theorem rmv_src {x y : T} {P : List NV} {z : NV} (h : z ∈ rmvN x y P) : ∃ u ∈ P, u.2 = z.2 := by
  unfold rmvN at h
  obtain ⟨u, hu, rfl⟩ := List.mem_map.1 h
  exact ⟨u, (List.mem_filter.1 hu).1, rfl⟩
theorem rvalM_data (y : T) (t : Nat) (z : ByteArray × Nd) : (rvalM y t z).data = z.2.data := by
  unfold rvalM
  split <;> rfl
theorem rfold_src {y : T} {t : Nat} : ∀ (M Q : List NV) {P : List NV}, (∀ z ∈ Q, ∃ u ∈ P, u.2.A = z.2.A ∧ u.2.nd.data = z.2.nd.data ∧ u.2.c = z.2.c) → (∀ z ∈ M, ∃ u ∈ P, u.2 = z.2) → ∀ z ∈ rfoldN y t M Q, ∃ u ∈ P, u.2.A = z.2.A ∧ u.2.nd.data = z.2.nd.data ∧ u.2.c = z.2.c
  | [], Q, P, h1, _ => h1
  | m :: M, Q, P, h1, h2 => by
    refine rfold_src M (putG (rvalN y t m) Q) (fun z hz => ?_) (fun z hz => h2 z (by simp [hz]))
    rcases mem_putG hz with rfl | hz
    · obtain ⟨u, hu, e⟩ := h2 m (by simp)
      exact ⟨u, hu, by rw [e]; rfl, by rw [e]; exact (rvalM_data y t (m.1, m.2.nd)).symm, by rw [e]; rfl⟩
    · exact h1 z hz
theorem RSO.keep {g : Nat} {S : St} {A : Option Addr} {c : Nat} {P : List NV} {w w' : World} {X : Nat → Prop} (h : RSO g S A c P w) (hk : Kp w w' X) (hg : ¬ X g) (hA : ∀ a, A = some a → P ≠ [] → ¬ X a.block) (hD : ∀ x ∈ P, ∀ a, x.2.A = some a → x.2.nd.data ≠ [] → ¬ X a.block) : RSO g S A c P w' :=
  ⟨(hk.block g (Array.getElem?_eq_some_iff.1 h.heap).1 hg).trans h.heap, h.cap, h.rg.ofB hk.size (fun a e hn => hk.block a.block (h.rg.block_lt e hn) (hA a e hn)), fun x hx => (h.dat x hx).ofB hk.size (fun a e hn => hk.block a.block ((h.dat x hx).block_lt e hn) (hD x hx a e hn)), h.eq, h.top, h.neA, h.neD, h.lt⟩
/-- what Move makes, of whole paths -/
theorem moveS_chain {S : St} {p q x y : T} (hp : absF [47] p = (x, 0)) (hq : absF [47] q = (y, 0)) : moveS S p q = if wayM S.m x ≠ 0 then (S, wayM S.m x) else if kindM S.m x = 0 then (S, 6) else if x = [47] then (S, 1) else if wayM S.m y ≠ 0 then (S, wayM S.m y) else if x = y then (S, 0) else
    if mayS S.m x y ≠ 0 then (S, mayS S.m x y) else (moveQ S x y, 0) := by
  unfold moveS foundS absS
  rw [hp, hq]
  simp only [ne_eq, not_true_eq_false, if_false]
  by_cases h1 : wayM S.m x = 0
  · simp only [h1, not_true_eq_false, if_false, true_and]
    by_cases h2 : kindM S.m x = 0
    · simp [h2]
    · simp only [h2, if_false, not_true_eq_false]
      by_cases h3 : x = [47]
      · simp [h3]
      · simp only [h3, if_false]
        by_cases h4 : wayM S.m y = 0
        · simp [h4]
        · simp [h4]
  · simp [h1]
theorem moveS_bad1 {S : St} {p q : T} (h : (absF [47] p).2 ≠ 0) : moveS S p q = (S, (absF [47] p).2) := by
  unfold moveS
  rw [if_pos h]
theorem moveS_bad2 {S : St} {p q : T} (h1 : (absF [47] p).2 = 0) (h : (absF [47] q).2 ≠ 0) : moveS S p q = (S, (absF [47] q).2) := by
  unfold moveS
  rw [if_neg (by simp [h1]), if_pos h]
open Classical in
/-- why not, as the document tells it -/
theorem may_doc {S : St} {P : List NV} (hS : WfS S) (t : HangS S) (hP : S.m = stripN P) {a b : List T} (ga : GoodP a) (gb : GoodP b) (nea : a ≠ []) (hk : kindM S.m (joinF a) ≠ 0) : mayS S.m (joinF a) (joinF b) =
    if joinF b = [47] then 1 else if withinF (joinF a) (joinF b) = true then 1 else if kindM S.m (joinF b) = 2 ∧ kindM S.m (joinF a) = 1 then 10 else if kindM S.m (joinF b) = 1 ∧ kindM S.m (joinF a) = 2 then 11 else
      if kindM S.m (joinF b) = 2 ∧ nmR (joinF b) (keysN P) ≠ [] then 14 else if ∃ z ∈ P, inF (joinF a) z = true ∧ badT (joinF a) (joinF b) z.1.data.toList then 3 else 0 := by
  have hka := kind_le S.m (joinF a)
  unfold mayS
  by_cases h1 : joinF b = [47]
  · rw [if_pos (.inl h1), if_pos h1]
  rw [if_neg h1]
  by_cases h2 : withinF (joinF a) (joinF b) = true
  · rw [if_pos (.inr h2), if_pos h2]
  rw [if_neg (by rintro (h | h); exact h1 h; exact h2 h), if_neg h2]
  have neb : b ≠ [] := fun e => h1 (by rw [e]; rfl)
  by_cases h3 : kindM S.m (joinF b) = 2 ∧ kindM S.m (joinF a) = 1
  · rw [if_pos ⟨h3.1, by omega⟩, if_pos h3]
  rw [if_neg (fun h => h3 ⟨h.1, by omega⟩), if_neg h3]
  split
  · rfl
  · have hnn : nmR (joinF b) (keysN P) ≠ [] ↔ belowM S.m (joinF b) ≠ [] := by rw [← keysN_eq hP, nmR_names hS gb]; exact not_congr (names_nil hS t gb neb)
    have hx : (kindM S.m (joinF b) = 2 ∧ belowM S.m (joinF b) ≠ []) ↔ (kindM S.m (joinF b) = 2 ∧ nmR (joinF b) (keysN P) ≠ []) := and_congr Iff.rfl hnn.symm
    by_cases h5 : kindM S.m (joinF b) = 2 ∧ belowM S.m (joinF b) ≠ []
    · rw [if_pos h5, if_pos (hx.1 h5)]
    rw [if_neg h5, if_neg (fun h => h5 (hx.2 h))]
    · have := bad_iff hS ga gb nea neb
      rw [hP] at this
      have e : (∃ z ∈ stripN P, withinF (joinF a) z.1.data.toList = true ∧ badT (joinF a) (joinF b) z.1.data.toList) ↔ ∃ z ∈ P, inF (joinF a) z = true ∧ badT (joinF a) (joinF b) z.1.data.toList := by
        unfold stripN
        constructor
        · rintro ⟨z, hz, h⟩
          obtain ⟨u, hu, rfl⟩ := List.mem_map.1 hz
          exact ⟨u, hu, h⟩
        · rintro ⟨u, hu, h⟩
          exact ⟨_, List.mem_map.2 ⟨u, hu, rfl⟩, h⟩
      rw [e] at this
      rw [← hP] at this
      by_cases h6 : ∃ z ∈ P, inF (joinF a) z = true ∧ badT (joinF a) (joinF b) z.1.data.toList
      · rw [if_pos (this.1 h6), if_pos h6]
      · rw [if_neg (fun h => h6 (this.2 h)), if_neg h6]

/-- the row of nodes that are to move -/
structure MRow (w : World) (b0 : Nat) (gm : Nat) (L : List NV) : Prop where
  rg : RG encE 4 w (some ⟨gm, 0, none⟩) L
  blk : ∃ cur, w.heap[gm]? = some (.cells cur 44)
  ge : b0 ≤ gm
theorem MRow.kp {w w' : World} {b0 gm g : Nat} {L : List NV} (h : MRow w b0 gm L) (hk : Kp w w' (fun k => k = g)) (hg : gm ≠ g) : MRow w' b0 gm L := by
  obtain ⟨cur, hc⟩ := h.blk
  exact ⟨h.rg.kp hk (fun a e _ => by injection e with e; subst e; exact hg), ⟨cur, (hk.block gm (Array.getElem?_eq_some_iff.1 hc).1 hg).trans hc⟩, h.ge⟩
theorem MRow.setT {w : World} {b0 gm : Nat} {L : List NV} (h : MRow w b0 gm L) {k : Nat} {x : NV} (hk : L[k]? = some x) (t : Nat) : MRow (w.setCell ⟨gm, k * 4 + 3, none⟩ (.int .i64 t)) b0 gm (L.set k (x.1, ⟨x.2.A, x.2.c, ⟨x.2.nd.dir, x.2.nd.data, t⟩⟩)) := by
  obtain ⟨cur, hc⟩ := h.blk
  exact ⟨h.rg.setT hk t, ⟨_, heapSet hc _⟩, h.ge⟩
theorem MRow.of {w : World} {b0 : Nat} {A : Option Addr} {n c : Nat} {L : List NV} (h : OwnG encE 4 44 w b0 (.slice A n c) L) (hn : L ≠ []) : ∃ gm, A = some ⟨gm, 0, none⟩ ∧ n = L.length ∧ L.length ≤ c ∧ gm < w.heap.size ∧ MRow w b0 gm L := by
  obtain ⟨hr, hm, hcl, _, _⟩ := OwnG.rso (g := 0) h
  rcases h.2 with ⟨_, h0⟩ | ⟨gm, cap, cur, e, hg, hh, _⟩
  · exact absurd (List.eq_nil_of_length_eq_zero h0) hn
  · injection e with e1 e2 e3
    subst e1
    exact ⟨gm, rfl, hm, hcl, (Array.getElem?_eq_some_iff.1 hh).1, hr, ⟨cur, hh⟩, hg⟩
theorem absS_fst {S : St} {p x q : T} (h : absF [47] p = (x, 0)) (h2 : absS S p = (q, 0)) (hq : q ≠ []) : q = x := by
  unfold absS at h2
  rw [h] at h2
  simp only [ne_eq, not_true_eq_false, if_false] at h2
  split at h2
  · injection h2 with h3 h4
    exact absurd h3.symm hq
  · injection h2 with h3 h4
    exact h3.symm
/-- the state with a row of nodes, one tick later -/
def SQ (S : St) (Q : List NV) : St := { S with m := stripN Q, clock := S.clock + 1 }
end Go.Proofs.YtkajhdbcnmafcaaGreatDoor
