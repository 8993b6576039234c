/- Parse's closure 'left'. -/
import Derived.Test.YtejcmdoalhnpeaaGreatDoorTurn
namespace Go.Proofs.YtejcmdoalhnpeaaGreatDoor
open Go.RowKit Go.Shelf

set_option maxHeartbeats 1000000 in
theorem left_any (R PB : Nat) (s : ByteArray) (r : Rd) (w : World) (hR : RdAt R s r w) (hP : Cls PB 103 #[.pointer (some ⟨R, 0, none⟩)] w) (_hs : s.size ≤ 1000000) (_ha : r.at_ ≤ s.size) :
    Calls Tryz.prog 59 #[.pointer (some ⟨PB, 0, none⟩)] w fun e w' => e = .returned (.bool (leftR (bytesOf s) r)) ∧ ∃ m, w' = w.drewN m := by
  have e0 : w.cell? ⟨PB, 0, none⟩ = some (.pointer (some ⟨R, 0, none⟩)) := hP.cell 0
  have c0 : w.cell? ⟨R, 0, none⟩ = some (.string s) := Cls.cell hR 0
  have c1 : w.cell? ⟨R, 1, none⟩ = some (.int .i64 r.at_) := Cls.cell hR 1
  have c2 : w.cell? ⟨R, 2, none⟩ = some (.int .i64 (badI r)) := Cls.cell hR 2
  cases hb : r.bad
  · have hl : leftR (bytesOf s) r = decide (r.at_ < s.size) := by simp [leftR, hb, bytesOf_len]
    rw [hl]
    rw [badI_f hb] at c2
    clear hl hb
    go_enter Tryz.func59, Tryz.ntmps59
    go_wp2_with fail
    go_quiet (fail)
    go_wp2
    go_ret
    exact ⟨ret_bool (by simp), _, rfl⟩
  · have hl : leftR (bytesOf s) r = false := by simp [leftR, hb]
    have hd : decide ((r.at_ : Int) < 0) = false := by simp
    rw [hl]
    rw [badI_t hb] at c2
    clear hl hb
    go_enter Tryz.func59, Tryz.ntmps59
    go_wp2_with fail
    go_quiet (fail)
    go_wp2
    go_ret
    exact ⟨rfl, _, rfl⟩

end Go.Proofs.YtejcmdoalhnpeaaGreatDoor
