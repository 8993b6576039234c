/- inPence and Pence of the program. -/
import Derived.Test.YthopgonbndoidaaVBtw
namespace Go.Proofs.Ythopgonbndoidaa
open Go.RowKit Go.Shelf

theorem RasAt.len {w : World} {v : Value} {l : List Ra} (h : RasAt w v l) : ∃ ao cap, v = .slice ao l.length cap ∧ l.length ≤ cap := by obtain ⟨ao, cap, hv, hle, _⟩ := h; exact ⟨ao, cap, hv, hle⟩
theorem RasAt.get {w : World} {ao : Option Addr} {n cap : Nat} {l : List Ra} (h : RasAt w (.slice ao n cap) l) (i : Nat) (hi : i < l.length) : ∃ b o, ao = some ⟨b, o, none⟩ ∧
    w.cell? ⟨b, o + i * 2, none⟩ = some (.int .i64 (l[i].n)) ∧ w.cell? ⟨b, o + i * 2 + 1, none⟩ = some (.int .i64 (l[i].d)) := by
  obtain ⟨ao', cap', hv, _, hc⟩ := h
  simp only [Value.slice.injEq] at hv
  obtain ⟨rfl, rfl, rfl⟩ := hv
  exact hc i hi
/-- the whole part of a number of parts; what it is rounded up to -/
def dnX (x : Int) : Int := x / 5354228880
def upX (x : Int) : Int := x / 5354228880 + min 1 (x % 5354228880)
theorem pn_facts (x : Int) (h0 : 0 ≤ x) (h1 : x ≤ 8421473853112320) : ∃ a b : Int, ratM x = ⟨a, b⟩ ∧ (0 < b ∧ b ≤ 5354228880) ∧ (0 ≤ a ∧ a ≤ 8421473853112320) ∧ a.tdiv b = dnX x ∧ min 1 (a.tmod b) = min 1 (x % 5354228880) ∧ (0 ≤ a.tmod b ∧ a.tmod b < 5354228880) ∧ 0 ≤ dnX x ∧ dnX x ≤ 1572864 := by
  obtain ⟨g, a, b, hg, hx, hw, hb, _, hr⟩ := ratM_parts x
  have ha : 0 ≤ a := by
    rcases Int.lt_or_le a 0 with h | h
    · have : g * a < 0 := Int.mul_neg_of_pos_of_neg hg h
      omega
    · exact h
  have ha2 : a ≤ g * a := by
    have := Int.mul_le_mul_of_nonneg_right (show 1 ≤ g by omega) ha
    omega
  have hb2 : b ≤ g * b := by
    have := Int.mul_le_mul_of_nonneg_right (show 1 ≤ g by omega) (show 0 ≤ b by omega)
    omega
  have hd : a / b = dnX x := by unfold dnX; rw [hw, hx, Int.mul_ediv_mul_of_pos _ _ hg]
  have hm : x % 5354228880 = g * (a % b) := by rw [hw, hx, Int.mul_emod_mul_of_pos _ _ hg]
  have hm0 := Int.emod_nonneg a (show b ≠ 0 by omega)
  have hm1 := Int.emod_lt_of_pos a hb
  refine ⟨a, b, hr, ⟨hb, by omega⟩, ⟨ha, by omega⟩, ?_, ?_, ?_, ?_, ?_⟩
  · rw [Int.tdiv_eq_ediv_of_nonneg ha, hd]
  · rw [Int.tmod_eq_emod_of_nonneg ha, hm]
    rcases Int.lt_or_le 0 (a % b) with h | h
    · have : a % b ≤ g * (a % b) := by
        have := Int.mul_le_mul_of_nonneg_right (show 1 ≤ g by omega) hm0
        omega
      omega
    · have : a % b = 0 := by omega
      rw [this]; simp
  · rw [Int.tmod_eq_emod_of_nonneg ha]; omega
  · unfold dnX; omega
  · unfold dnX; omega
def loL (T : Tr) (l : List Py) : List Int := l.map (fun p => dnX (shX T p))
def hiL (T : Tr) (l : List Py) : List Int := l.map (fun p => upX (shX T p))
theorem loL_snoc (T : Tr) (l : List Py) (p : Py) : loL T (l ++ [p]) = loL T l ++ [dnX (shX T p)] := by simp [loL]
theorem hiL_snoc (T : Tr) (l : List Py) (p : Py) : hiL T (l ++ [p]) = hiL T l ++ [upX (shX T p)] := by simp [hiL]
/-- one step of the rounding -/
def pnS (T : Tr) (s : List Int × List Int) (i : Nat) : List Int × List Int :=
  if btwB T (s.1.set i (s.2.getD i 0)) s.2 = true then (s.1.set i (s.2.getD i 0), s.2) else (s.1, s.2.set i (s.1.getD i 0))
def pnF (T : Tr) (k : Nat) : List Int × List Int := (List.range k).foldl (pnS T) (loL T T.ps, hiL T T.ps)
theorem pnF_succ (T : Tr) (k : Nat) : pnF T (k + 1) = pnS T (pnF T k) k := by unfold pnF; rw [List.range_succ, List.foldl_append]; rfl
def pnX (T : Tr) : List Int := (pnF T T.ps.length).1

theorem shX_bd {T : Tr} (hok : Ok T) {p : Py} (hp : p ∈ T.ps) : 0 ≤ shX T p ∧ shX T p ≤ 8421473853112320 := by
  have h := shF_bd (T := T) (w := p.w) (l := upL T.rs p.reach) (fun r hr => by
    obtain ⟨_, h2, h3, h4⟩ := pay_facts hok hp hr
    exact pcX_bd h4 h2.1 h2.2 h3)
  have hl := upL_len hok.rv T.rs.length p.reach (by have := (hok.pv p hp).2.1; omega) (hok.pv p hp).2.1.2
  have := hok.lr
  unfold shX
  omega
theorem upX_bd {x : Int} (h0 : 0 ≤ x) (h1 : x ≤ 8421473853112320) : dnX x ≤ upX x ∧ upX x ≤ dnX x + 1 ∧ 0 ≤ dnX x ∧ upX x ≤ 1572865 := by unfold upX dnX; omega
/-- what the rounding keeps -/
structure PnV (n : Nat) (s : List Int × List Int) : Prop where
  l1 : s.1.length = n
  l2 : s.2.length = n
  b1 : ∀ x ∈ s.1, 0 ≤ x ∧ x ≤ 1073741824
  b2 : ∀ x ∈ s.2, 0 ≤ x ∧ x ≤ 1073741824
theorem mem_set_of {l : List Int} {i : Nat} {v x : Int} (h : x ∈ l.set i v) : x = v ∨ x ∈ l := by
  rcases List.mem_or_eq_of_mem_set h with h | h
  · exact .inr h
  · exact .inl h
theorem PnV.step {T : Tr} {n : Nat} {s : List Int × List Int} (h : PnV n s) {i : Nat} (hi : i < n) : PnV n (pnS T s i) := by
  have hd1 : s.1.getD i 0 ∈ s.1 := by rw [List.getD_eq_getElem?_getD, List.getElem?_eq_getElem (by rw [h.l1]; exact hi)]; simp
  have hd2 : s.2.getD i 0 ∈ s.2 := by rw [List.getD_eq_getElem?_getD, List.getElem?_eq_getElem (by rw [h.l2]; exact hi)]; simp
  unfold pnS
  split
  · exact ⟨by simp [h.l1], h.l2, fun x hx => by
      rcases mem_set_of hx with rfl | hx
      · exact h.b2 _ hd2
      · exact h.b1 _ hx, h.b2⟩
  · exact ⟨h.l1, by simp [h.l2], h.b1, fun x hx => by
      rcases mem_set_of hx with rfl | hx
      · exact h.b1 _ hd1
      · exact h.b2 _ hx⟩
theorem pnV_start {T : Tr} (hok : Ok T) : PnV T.ps.length (loL T T.ps, hiL T T.ps) :=
  ⟨by simp [loL], by simp [hiL], fun x hx => by
    obtain ⟨p, hp, rfl⟩ := List.mem_map.1 hx
    have h := shX_bd hok hp
    have := upX_bd h.1 h.2
    omega, fun x hx => by
    obtain ⟨p, hp, rfl⟩ := List.mem_map.1 hx
    have h := shX_bd hok hp
    have := upX_bd h.1 h.2
    omega⟩
theorem pnV_at {T : Tr} (hok : Ok T) : ∀ k, k ≤ T.ps.length → PnV T.ps.length (pnF T k) := by
  intro k
  induction k with
  | zero => intro _; exact pnV_start hok
  | succ k ih => intro h; rw [pnF_succ]; exact (ih (by omega)).step (by omega)

/-- two rows of the call's own, beside a box -/
structure TwoR (w : World) (n₀ : Nat) (W : World) (cs : Array Value) (vl vh : Value) (lo hi : List Int) : Prop where
  bx : Cls w.heap.size 25 cs W
  rl : RowI n₀ vl lo W
  rh : RowI n₀ vh hi W
  ne : ∀ g, vl.ownBlock = some g → vh.ownBlock ≠ some g
  ex : Ext w W
  nb : w.heap.size < n₀ ∧ n₀ ≤ W.heap.size
theorem TwoR.ext {w W W' : World} {n₀ : Nat} {cs : Array Value} {vl vh : Value} {lo hi : List Int} (h : TwoR w n₀ W cs vl vh lo hi) (x : Ext W W') : TwoR w n₀ W' cs vl vh lo hi :=
  ⟨h.bx.ext x, rowI_ext h.rl x, rowI_ext h.rh x, h.ne, h.ex.trans x, h.nb.1, Nat.le_trans h.nb.2 x.size⟩
theorem ne_opt {u v : Value} (h : ∀ g, u.ownBlock = some g → v.ownBlock ≠ some g) : v.ownBlock = none ∨ v.ownBlock ≠ u.ownBlock := by
  cases hu : u.ownBlock with
  | none =>
    cases hv : v.ownBlock with
    | none => exact .inl rfl
    | some g => exact .inr (by simp)
  | some g => exact .inr (h g hu)
theorem TwoR.addL {w W W' : World} {n₀ : Nat} {cs : Array Value} {vl vh v' : Value} {lo hi : List Int} {x : Int} {tmp : Obj} (h : TwoR w n₀ W cs vl vh lo hi) (hr : RowI n₀ v' (lo ++ [x]) W') (hg : (W.alloc tmp).grownBy W' vl.ownBlock)
    (ha : v'.ownBlock = vl.ownBlock ∨ v'.ownBlock = some (W.alloc tmp).heap.size) : TwoR w n₀ W' cs v' vh (lo ++ [x]) hi := by
  have hg' := grown_pre hg
  have hnb := h.nb
  have hsz := hg'.size
  refine ⟨h.bx.kept hg' (own_ge h.rl (by omega)), hr, rowI_kept h.rh hg' (ne_opt h.ne), fun g hv hv2 => ?_, ext_own h.ex h.rl (by omega) hg', by omega⟩
  rcases ha with ha | ha
  · exact h.ne g (ha.symm.trans hv) hv2
  · have := (h.rh.lt g hv2).2
    rw [ha] at hv
    have := Option.some.inj hv
    simp at this
    omega
theorem TwoR.addH {w W W' : World} {n₀ : Nat} {cs : Array Value} {vl vh v' : Value} {lo hi : List Int} {x : Int} {tmp : Obj} (h : TwoR w n₀ W cs vl vh lo hi) (hr : RowI n₀ v' (hi ++ [x]) W') (hg : (W.alloc tmp).grownBy W' vh.ownBlock)
    (ha : v'.ownBlock = vh.ownBlock ∨ v'.ownBlock = some (W.alloc tmp).heap.size) : TwoR w n₀ W' cs vl v' lo (hi ++ [x]) := by
  have hg' := grown_pre hg
  have hnb := h.nb
  have hsz := hg'.size
  refine ⟨h.bx.kept hg' (own_ge h.rh (by omega)), rowI_kept h.rl hg' (ne_opt fun g e1 e2 => h.ne g e2 e1), hr, fun g hv hv2 => ?_, ext_own h.ex h.rh (by omega) hg', by omega⟩
  rcases ha with ha | ha
  · exact h.ne g hv (ha.symm.trans hv2)
  · have := (h.rl.lt g hv).2
    rw [ha] at hv2
    have := Option.some.inj hv2
    simp at this
    omega
theorem TwoR.setL {w W : World} {n₀ : Nat} {cs : Array Value} {g c i : Nat} {vh : Value} {lo hi : List Int} (h : TwoR w n₀ W cs (.slice (some ⟨g, 0, none⟩) lo.length c) vh lo hi) (x : Int) :
    TwoR w n₀ (W.setCell ⟨g, i, none⟩ (.int .i64 x)) cs (.slice (some ⟨g, 0, none⟩) lo.length c) vh (lo.set i x) hi := by
  have hb := (h.rl.lt g rfl).1
  have hnb := h.nb
  refine ⟨h.bx.other (by omega) i _, rowI_set h.rl x, rowI_kept h.rh (grown_set W g i _) (ne_opt (u := .slice (some ⟨g, 0, none⟩) lo.length c) h.ne), h.ne, h.ex.setCell (by simp; omega) _, by simpa [World.setCell] using hnb⟩
theorem TwoR.setH {w W : World} {n₀ : Nat} {cs : Array Value} {g c i : Nat} {vl : Value} {lo hi : List Int} (h : TwoR w n₀ W cs vl (.slice (some ⟨g, 0, none⟩) hi.length c) lo hi) (x : Int) :
    TwoR w n₀ (W.setCell ⟨g, i, none⟩ (.int .i64 x)) cs vl (.slice (some ⟨g, 0, none⟩) hi.length c) lo (hi.set i x) := by
  have hb := (h.rh.lt g rfl).1
  have hnb := h.nb
  refine ⟨h.bx.other (by omega) i _, rowI_kept h.rl (grown_set W g i _) (ne_opt (u := .slice (some ⟨g, 0, none⟩) hi.length c) (fun g e1 e2 => h.ne g e2 e1)), rowI_set h.rh x, h.ne, h.ex.setCell (by simp; omega) _, by simpa [World.setCell] using hnb⟩
theorem TwoR.setL' {w W : World} {n₀ : Nat} {cs : Array Value} {g c i m : Nat} {vh : Value} {lo hi : List Int} (h : TwoR w n₀ W cs (.slice (some ⟨g, 0, none⟩) m c) vh lo hi) (hm : lo.length = m) (x : Int) :
    TwoR w n₀ (W.setCell ⟨g, i, none⟩ (.int .i64 x)) cs (.slice (some ⟨g, 0, none⟩) m c) vh (lo.set i x) hi := by subst hm; exact h.setL x
theorem TwoR.setH' {w W : World} {n₀ : Nat} {cs : Array Value} {g c i m : Nat} {vl : Value} {lo hi : List Int} (h : TwoR w n₀ W cs vl (.slice (some ⟨g, 0, none⟩) m c) lo hi) (hm : hi.length = m) (x : Int) :
    TwoR w n₀ (W.setCell ⟨g, i, none⟩ (.int .i64 x)) cs vl (.slice (some ⟨g, 0, none⟩) m c) lo (hi.set i x) := by subst hm; exact h.setH x
/-- a row that is not empty, opened -/
theorem RowI.opened {n₀ n c : Nat} {A : Option Addr} {l : List Int} {W : World} (h : RowI n₀ (.slice A n c) l W) (hn : l.length = n) (h0 : 0 < n) : ∃ g, A = some ⟨g, 0, none⟩ ∧ n₀ ≤ g ∧ g < W.heap.size ∧ n ≤ c := by
  obtain ⟨g, c', hv, h1, h2, h3⟩ := h.block (by omega)
  simp only [Value.slice.injEq] at hv
  obtain ⟨rfl, _, rfl⟩ := hv
  exact ⟨g, rfl, h1, h2, by omega⟩
theorem RowI.cell {n₀ n c g : Nat} {l : List Int} {W : World} (h : RowI n₀ (.slice (some ⟨g, 0, none⟩) n c) l W) (hn : l.length = n) {k : Nat} (hk : k < l.length) : W.cell? ⟨g, k, none⟩ = some (.int .i64 l[k]) := by
  subst hn
  exact (World.ownsRow.cellAt (g := g) h k (by omega)).trans (cellsI_get l k hk)
theorem RowI.frozen {n₀ n c g : Nat} {l : List Int} {W : World} (h : RowI n₀ (.slice (some ⟨g, 0, none⟩) n c) l W) (hn : l.length = n) (k : Nat) : W.frozen? ⟨g, k, none⟩ = false := by
  subst hn
  exact World.ownsRow.frozenAt (g := g) h k
end Go.Proofs.Ythopgonbndoidaa
