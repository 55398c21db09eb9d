/- The Book's functions for the kinds of which nothing is held. -/
import Derived.Test.YtjhomkdnhdhffaaGreatBkPl
namespace Go.Proofs.YtjhomkdnhdhffaaGreat.I
open Go.RowKit

set_option maxRecDepth 100000 in
theorem fillByte_none {TB : TypeId} {gb o nb : Nat} {F : Nat → Value} {w : World} (hbk : BookAt w TB gb o nb F) (hf : F 1 = .slice none 0 0) : Calls Tryz.prog 30 #[.pointer (some ⟨gb, o, none⟩)] w fun e w' => (∃ v, e = .returned v) ∧ w' = w := by
  have cf : w.cell? ⟨gb, o + 2, none⟩ = some (.slice none 0 0) := hf ▸ (hbk.fld 1 (by decide)).1
  clear hbk hf
  go_enter Tryz.func30, Tryz.ntmps30
  go_wp2
  go_loopw [2] (fun i wr => i = .int .i64 0 ∧ wr = w) (fun _ _ => 0)
  case atStart => exact ⟨rfl, rfl⟩
  case round =>
    obtain ⟨rfl, rfl⟩ := hrel
    go_wp2
    go_end0
    exact ⟨⟨_, rfl⟩, rfl⟩
set_option maxRecDepth 100000 in
theorem growByte_none {TB : TypeId} {gb o nb : Nat} {F : Nat → Value} {w : World} (hbk : BookAt w TB gb o nb F) (hf : F 1 = .slice none 0 0) : Calls Tryz.prog 55 #[.pointer (some ⟨gb, o, none⟩)] w fun e w' => (∃ v, e = .returned v) ∧ w' = w := by
  have cf : w.cell? ⟨gb, o + 2, none⟩ = some (.slice none 0 0) := hf ▸ (hbk.fld 1 (by decide)).1
  clear hbk hf
  go_enter Tryz.func55, Tryz.ntmps55
  go_wp2
  go_loopw [2] (fun i wr => i = .int .i64 0 ∧ wr = w) (fun _ _ => 0)
  case atStart => exact ⟨rfl, rfl⟩
  case round =>
    obtain ⟨rfl, rfl⟩ := hrel
    go_wp2
    go_end0
    exact ⟨⟨_, rfl⟩, rfl⟩
set_option maxRecDepth 100000 in
theorem lookByte_none {TB : TypeId} {gb o nb : Nat} {F : Nat → Value} {w : World} (hbk : BookAt w TB gb o nb F) (hf : F 1 = .slice none 0 0) : Calls Tryz.prog 80 #[.pointer (some ⟨gb, o, none⟩)] w fun e w' => e = .returned (.bool true) ∧ w' = w := by
  have cf : w.cell? ⟨gb, o + 2, none⟩ = some (.slice none 0 0) := hf ▸ (hbk.fld 1 (by decide)).1
  clear hbk hf
  go_enter Tryz.func80, Tryz.ntmps80
  go_wp2
  go_loopw [3] (fun i wr => i = .int .i64 0 ∧ wr = w) (fun _ _ => 0)
  case atStart => exact ⟨rfl, rfl⟩
  case round =>
    obtain ⟨rfl, rfl⟩ := hrel
    go_wp2
    go_ret
    exact ⟨rfl, rfl⟩

set_option maxRecDepth 100000 in
theorem fillFloat_none {TB : TypeId} {gb o nb : Nat} {F : Nat → Value} {w : World} (hbk : BookAt w TB gb o nb F) (hf : F 2 = .slice none 0 0) : Calls Tryz.prog 31 #[.pointer (some ⟨gb, o, none⟩)] w fun e w' => (∃ v, e = .returned v) ∧ w' = w := by
  have cf : w.cell? ⟨gb, o + 3, none⟩ = some (.slice none 0 0) := hf ▸ (hbk.fld 2 (by decide)).1
  clear hbk hf
  go_enter Tryz.func31, Tryz.ntmps31
  go_wp2
  go_loopw [2] (fun i wr => i = .int .i64 0 ∧ wr = w) (fun _ _ => 0)
  case atStart => exact ⟨rfl, rfl⟩
  case round =>
    obtain ⟨rfl, rfl⟩ := hrel
    go_wp2
    go_end0
    exact ⟨⟨_, rfl⟩, rfl⟩
set_option maxRecDepth 100000 in
theorem growFloat_none {TB : TypeId} {gb o nb : Nat} {F : Nat → Value} {w : World} (hbk : BookAt w TB gb o nb F) (hf : F 2 = .slice none 0 0) : Calls Tryz.prog 56 #[.pointer (some ⟨gb, o, none⟩)] w fun e w' => (∃ v, e = .returned v) ∧ w' = w := by
  have cf : w.cell? ⟨gb, o + 3, none⟩ = some (.slice none 0 0) := hf ▸ (hbk.fld 2 (by decide)).1
  clear hbk hf
  go_enter Tryz.func56, Tryz.ntmps56
  go_wp2
  go_loopw [2] (fun i wr => i = .int .i64 0 ∧ wr = w) (fun _ _ => 0)
  case atStart => exact ⟨rfl, rfl⟩
  case round =>
    obtain ⟨rfl, rfl⟩ := hrel
    go_wp2
    go_end0
    exact ⟨⟨_, rfl⟩, rfl⟩
set_option maxRecDepth 100000 in
theorem lookFloat_none {TB : TypeId} {gb o nb : Nat} {F : Nat → Value} {w : World} (hbk : BookAt w TB gb o nb F) (hf : F 2 = .slice none 0 0) : Calls Tryz.prog 81 #[.pointer (some ⟨gb, o, none⟩)] w fun e w' => e = .returned (.bool true) ∧ w' = w := by
  have cf : w.cell? ⟨gb, o + 3, none⟩ = some (.slice none 0 0) := hf ▸ (hbk.fld 2 (by decide)).1
  clear hbk hf
  go_enter Tryz.func81, Tryz.ntmps81
  go_wp2
  go_loopw [3] (fun i wr => i = .int .i64 0 ∧ wr = w) (fun _ _ => 0)
  case atStart => exact ⟨rfl, rfl⟩
  case round =>
    obtain ⟨rfl, rfl⟩ := hrel
    go_wp2
    go_ret
    exact ⟨rfl, rfl⟩

set_option maxRecDepth 100000 in
theorem fillID_none {TB : TypeId} {gb o nb : Nat} {F : Nat → Value} {w : World} (hbk : BookAt w TB gb o nb F) (hf : F 3 = .slice none 0 0) : Calls Tryz.prog 32 #[.pointer (some ⟨gb, o, none⟩)] w fun e w' => (∃ v, e = .returned v) ∧ w' = w := by
  have cf : w.cell? ⟨gb, o + 4, none⟩ = some (.slice none 0 0) := hf ▸ (hbk.fld 3 (by decide)).1
  clear hbk hf
  go_enter Tryz.func32, Tryz.ntmps32
  go_wp2
  go_loopw [2] (fun i wr => i = .int .i64 0 ∧ wr = w) (fun _ _ => 0)
  case atStart => exact ⟨rfl, rfl⟩
  case round =>
    obtain ⟨rfl, rfl⟩ := hrel
    go_wp2
    go_end0
    exact ⟨⟨_, rfl⟩, rfl⟩
set_option maxRecDepth 100000 in
theorem growID_none {TB : TypeId} {gb o nb : Nat} {F : Nat → Value} {w : World} (hbk : BookAt w TB gb o nb F) (hf : F 3 = .slice none 0 0) : Calls Tryz.prog 57 #[.pointer (some ⟨gb, o, none⟩)] w fun e w' => (∃ v, e = .returned v) ∧ w' = w := by
  have cf : w.cell? ⟨gb, o + 4, none⟩ = some (.slice none 0 0) := hf ▸ (hbk.fld 3 (by decide)).1
  clear hbk hf
  go_enter Tryz.func57, Tryz.ntmps57
  go_wp2
  go_loopw [2] (fun i wr => i = .int .i64 0 ∧ wr = w) (fun _ _ => 0)
  case atStart => exact ⟨rfl, rfl⟩
  case round =>
    obtain ⟨rfl, rfl⟩ := hrel
    go_wp2
    go_end0
    exact ⟨⟨_, rfl⟩, rfl⟩
set_option maxRecDepth 100000 in
theorem lookID_none {TB : TypeId} {gb o nb : Nat} {F : Nat → Value} {w : World} (hbk : BookAt w TB gb o nb F) (hf : F 3 = .slice none 0 0) : Calls Tryz.prog 82 #[.pointer (some ⟨gb, o, none⟩)] w fun e w' => e = .returned (.bool true) ∧ w' = w := by
  have cf : w.cell? ⟨gb, o + 4, none⟩ = some (.slice none 0 0) := hf ▸ (hbk.fld 3 (by decide)).1
  clear hbk hf
  go_enter Tryz.func82, Tryz.ntmps82
  go_wp2
  go_loopw [3] (fun i wr => i = .int .i64 0 ∧ wr = w) (fun _ _ => 0)
  case atStart => exact ⟨rfl, rfl⟩
  case round =>
    obtain ⟨rfl, rfl⟩ := hrel
    go_wp2
    go_ret
    exact ⟨rfl, rfl⟩

set_option maxRecDepth 100000 in
theorem fillPoint_none {TB : TypeId} {gb o nb : Nat} {F : Nat → Value} {w : World} (hbk : BookAt w TB gb o nb F) (hf : F 4 = .slice none 0 0) : Calls Tryz.prog 33 #[.pointer (some ⟨gb, o, none⟩)] w fun e w' => (∃ v, e = .returned v) ∧ w' = w := by
  have cf : w.cell? ⟨gb, o + 5, none⟩ = some (.slice none 0 0) := hf ▸ (hbk.fld 4 (by decide)).1
  clear hbk hf
  go_enter Tryz.func33, Tryz.ntmps33
  go_wp2
  go_loopw [2] (fun i wr => i = .int .i64 0 ∧ wr = w) (fun _ _ => 0)
  case atStart => exact ⟨rfl, rfl⟩
  case round =>
    obtain ⟨rfl, rfl⟩ := hrel
    go_wp2
    go_end0
    exact ⟨⟨_, rfl⟩, rfl⟩
set_option maxRecDepth 100000 in
theorem growPoint_none {TB : TypeId} {gb o nb : Nat} {F : Nat → Value} {w : World} (hbk : BookAt w TB gb o nb F) (hf : F 4 = .slice none 0 0) : Calls Tryz.prog 58 #[.pointer (some ⟨gb, o, none⟩)] w fun e w' => (∃ v, e = .returned v) ∧ w' = w := by
  have cf : w.cell? ⟨gb, o + 5, none⟩ = some (.slice none 0 0) := hf ▸ (hbk.fld 4 (by decide)).1
  clear hbk hf
  go_enter Tryz.func58, Tryz.ntmps58
  go_wp2
  go_loopw [2] (fun i wr => i = .int .i64 0 ∧ wr = w) (fun _ _ => 0)
  case atStart => exact ⟨rfl, rfl⟩
  case round =>
    obtain ⟨rfl, rfl⟩ := hrel
    go_wp2
    go_end0
    exact ⟨⟨_, rfl⟩, rfl⟩
set_option maxRecDepth 100000 in
theorem lookPoint_none {TB : TypeId} {gb o nb : Nat} {F : Nat → Value} {w : World} (hbk : BookAt w TB gb o nb F) (hf : F 4 = .slice none 0 0) : Calls Tryz.prog 83 #[.pointer (some ⟨gb, o, none⟩)] w fun e w' => e = .returned (.bool true) ∧ w' = w := by
  have cf : w.cell? ⟨gb, o + 5, none⟩ = some (.slice none 0 0) := hf ▸ (hbk.fld 4 (by decide)).1
  clear hbk hf
  go_enter Tryz.func83, Tryz.ntmps83
  go_wp2
  go_loopw [3] (fun i wr => i = .int .i64 0 ∧ wr = w) (fun _ _ => 0)
  case atStart => exact ⟨rfl, rfl⟩
  case round =>
    obtain ⟨rfl, rfl⟩ := hrel
    go_wp2
    go_ret
    exact ⟨rfl, rfl⟩

set_option maxRecDepth 100000 in
theorem fillBox_none {TB : TypeId} {gb o nb : Nat} {F : Nat → Value} {w : World} (hbk : BookAt w TB gb o nb F) (hf : F 5 = .slice none 0 0) : Calls Tryz.prog 34 #[.pointer (some ⟨gb, o, none⟩)] w fun e w' => (∃ v, e = .returned v) ∧ w' = w := by
  have cf : w.cell? ⟨gb, o + 6, none⟩ = some (.slice none 0 0) := hf ▸ (hbk.fld 5 (by decide)).1
  clear hbk hf
  go_enter Tryz.func34, Tryz.ntmps34
  go_wp2
  go_loopw [2] (fun i wr => i = .int .i64 0 ∧ wr = w) (fun _ _ => 0)
  case atStart => exact ⟨rfl, rfl⟩
  case round =>
    obtain ⟨rfl, rfl⟩ := hrel
    go_wp2
    go_end0
    exact ⟨⟨_, rfl⟩, rfl⟩
set_option maxRecDepth 100000 in
theorem growBox_none {TB : TypeId} {gb o nb : Nat} {F : Nat → Value} {w : World} (hbk : BookAt w TB gb o nb F) (hf : F 5 = .slice none 0 0) : Calls Tryz.prog 59 #[.pointer (some ⟨gb, o, none⟩)] w fun e w' => (∃ v, e = .returned v) ∧ w' = w := by
  have cf : w.cell? ⟨gb, o + 6, none⟩ = some (.slice none 0 0) := hf ▸ (hbk.fld 5 (by decide)).1
  clear hbk hf
  go_enter Tryz.func59, Tryz.ntmps59
  go_wp2
  go_loopw [2] (fun i wr => i = .int .i64 0 ∧ wr = w) (fun _ _ => 0)
  case atStart => exact ⟨rfl, rfl⟩
  case round =>
    obtain ⟨rfl, rfl⟩ := hrel
    go_wp2
    go_end0
    exact ⟨⟨_, rfl⟩, rfl⟩
set_option maxRecDepth 100000 in
theorem lookBox_none {TB : TypeId} {gb o nb : Nat} {F : Nat → Value} {w : World} (hbk : BookAt w TB gb o nb F) (hf : F 5 = .slice none 0 0) : Calls Tryz.prog 84 #[.pointer (some ⟨gb, o, none⟩)] w fun e w' => e = .returned (.bool true) ∧ w' = w := by
  have cf : w.cell? ⟨gb, o + 6, none⟩ = some (.slice none 0 0) := hf ▸ (hbk.fld 5 (by decide)).1
  clear hbk hf
  go_enter Tryz.func84, Tryz.ntmps84
  go_wp2
  go_loopw [3] (fun i wr => i = .int .i64 0 ∧ wr = w) (fun _ _ => 0)
  case atStart => exact ⟨rfl, rfl⟩
  case round =>
    obtain ⟨rfl, rfl⟩ := hrel
    go_wp2
    go_ret
    exact ⟨rfl, rfl⟩

set_option maxRecDepth 100000 in
theorem fillNear_none {TB : TypeId} {gb o nb : Nat} {F : Nat → Value} {w : World} (hbk : BookAt w TB gb o nb F) (hf : F 6 = .slice none 0 0) : Calls Tryz.prog 35 #[.pointer (some ⟨gb, o, none⟩)] w fun e w' => (∃ v, e = .returned v) ∧ w' = w := by
  have cf : w.cell? ⟨gb, o + 7, none⟩ = some (.slice none 0 0) := hf ▸ (hbk.fld 6 (by decide)).1
  clear hbk hf
  go_enter Tryz.func35, Tryz.ntmps35
  go_wp2
  go_loopw [2] (fun i wr => i = .int .i64 0 ∧ wr = w) (fun _ _ => 0)
  case atStart => exact ⟨rfl, rfl⟩
  case round =>
    obtain ⟨rfl, rfl⟩ := hrel
    go_wp2
    go_end0
    exact ⟨⟨_, rfl⟩, rfl⟩
set_option maxRecDepth 100000 in
theorem growNear_none {TB : TypeId} {gb o nb : Nat} {F : Nat → Value} {w : World} (hbk : BookAt w TB gb o nb F) (hf : F 6 = .slice none 0 0) : Calls Tryz.prog 60 #[.pointer (some ⟨gb, o, none⟩)] w fun e w' => (∃ v, e = .returned v) ∧ w' = w := by
  have cf : w.cell? ⟨gb, o + 7, none⟩ = some (.slice none 0 0) := hf ▸ (hbk.fld 6 (by decide)).1
  clear hbk hf
  go_enter Tryz.func60, Tryz.ntmps60
  go_wp2
  go_loopw [2] (fun i wr => i = .int .i64 0 ∧ wr = w) (fun _ _ => 0)
  case atStart => exact ⟨rfl, rfl⟩
  case round =>
    obtain ⟨rfl, rfl⟩ := hrel
    go_wp2
    go_end0
    exact ⟨⟨_, rfl⟩, rfl⟩
set_option maxRecDepth 100000 in
theorem lookNear_none {TB : TypeId} {gb o nb : Nat} {F : Nat → Value} {w : World} (hbk : BookAt w TB gb o nb F) (hf : F 6 = .slice none 0 0) : Calls Tryz.prog 85 #[.pointer (some ⟨gb, o, none⟩)] w fun e w' => e = .returned (.bool true) ∧ w' = w := by
  have cf : w.cell? ⟨gb, o + 7, none⟩ = some (.slice none 0 0) := hf ▸ (hbk.fld 6 (by decide)).1
  clear hbk hf
  go_enter Tryz.func85, Tryz.ntmps85
  go_wp2
  go_loopw [3] (fun i wr => i = .int .i64 0 ∧ wr = w) (fun _ _ => 0)
  case atStart => exact ⟨rfl, rfl⟩
  case round =>
    obtain ⟨rfl, rfl⟩ := hrel
    go_wp2
    go_ret
    exact ⟨rfl, rfl⟩

set_option maxRecDepth 100000 in
theorem fillRoad_none {TB : TypeId} {gb o nb : Nat} {F : Nat → Value} {w : World} (hbk : BookAt w TB gb o nb F) (hf : F 7 = .slice none 0 0) : Calls Tryz.prog 36 #[.pointer (some ⟨gb, o, none⟩)] w fun e w' => (∃ v, e = .returned v) ∧ w' = w := by
  have cf : w.cell? ⟨gb, o + 8, none⟩ = some (.slice none 0 0) := hf ▸ (hbk.fld 7 (by decide)).1
  clear hbk hf
  go_enter Tryz.func36, Tryz.ntmps36
  go_wp2
  go_loopw [2] (fun i wr => i = .int .i64 0 ∧ wr = w) (fun _ _ => 0)
  case atStart => exact ⟨rfl, rfl⟩
  case round =>
    obtain ⟨rfl, rfl⟩ := hrel
    go_wp2
    go_end0
    exact ⟨⟨_, rfl⟩, rfl⟩
set_option maxRecDepth 100000 in
theorem growRoad_none {TB : TypeId} {gb o nb : Nat} {F : Nat → Value} {w : World} (hbk : BookAt w TB gb o nb F) (hf : F 7 = .slice none 0 0) : Calls Tryz.prog 61 #[.pointer (some ⟨gb, o, none⟩)] w fun e w' => (∃ v, e = .returned v) ∧ w' = w := by
  have cf : w.cell? ⟨gb, o + 8, none⟩ = some (.slice none 0 0) := hf ▸ (hbk.fld 7 (by decide)).1
  clear hbk hf
  go_enter Tryz.func61, Tryz.ntmps61
  go_wp2
  go_loopw [2] (fun i wr => i = .int .i64 0 ∧ wr = w) (fun _ _ => 0)
  case atStart => exact ⟨rfl, rfl⟩
  case round =>
    obtain ⟨rfl, rfl⟩ := hrel
    go_wp2
    go_end0
    exact ⟨⟨_, rfl⟩, rfl⟩
set_option maxRecDepth 100000 in
theorem lookRoad_none {TB : TypeId} {gb o nb : Nat} {F : Nat → Value} {w : World} (hbk : BookAt w TB gb o nb F) (hf : F 7 = .slice none 0 0) : Calls Tryz.prog 86 #[.pointer (some ⟨gb, o, none⟩)] w fun e w' => e = .returned (.bool true) ∧ w' = w := by
  have cf : w.cell? ⟨gb, o + 8, none⟩ = some (.slice none 0 0) := hf ▸ (hbk.fld 7 (by decide)).1
  clear hbk hf
  go_enter Tryz.func86, Tryz.ntmps86
  go_wp2
  go_loopw [3] (fun i wr => i = .int .i64 0 ∧ wr = w) (fun _ _ => 0)
  case atStart => exact ⟨rfl, rfl⟩
  case round =>
    obtain ⟨rfl, rfl⟩ := hrel
    go_wp2
    go_ret
    exact ⟨rfl, rfl⟩

set_option maxRecDepth 100000 in
theorem fillLeg_none {TB : TypeId} {gb o nb : Nat} {F : Nat → Value} {w : World} (hbk : BookAt w TB gb o nb F) (hf : F 8 = .slice none 0 0) : Calls Tryz.prog 37 #[.pointer (some ⟨gb, o, none⟩)] w fun e w' => (∃ v, e = .returned v) ∧ w' = w := by
  have cf : w.cell? ⟨gb, o + 9, none⟩ = some (.slice none 0 0) := hf ▸ (hbk.fld 8 (by decide)).1
  clear hbk hf
  go_enter Tryz.func37, Tryz.ntmps37
  go_wp2
  go_loopw [2] (fun i wr => i = .int .i64 0 ∧ wr = w) (fun _ _ => 0)
  case atStart => exact ⟨rfl, rfl⟩
  case round =>
    obtain ⟨rfl, rfl⟩ := hrel
    go_wp2
    go_end0
    exact ⟨⟨_, rfl⟩, rfl⟩
set_option maxRecDepth 100000 in
theorem growLeg_none {TB : TypeId} {gb o nb : Nat} {F : Nat → Value} {w : World} (hbk : BookAt w TB gb o nb F) (hf : F 8 = .slice none 0 0) : Calls Tryz.prog 62 #[.pointer (some ⟨gb, o, none⟩)] w fun e w' => (∃ v, e = .returned v) ∧ w' = w := by
  have cf : w.cell? ⟨gb, o + 9, none⟩ = some (.slice none 0 0) := hf ▸ (hbk.fld 8 (by decide)).1
  clear hbk hf
  go_enter Tryz.func62, Tryz.ntmps62
  go_wp2
  go_loopw [2] (fun i wr => i = .int .i64 0 ∧ wr = w) (fun _ _ => 0)
  case atStart => exact ⟨rfl, rfl⟩
  case round =>
    obtain ⟨rfl, rfl⟩ := hrel
    go_wp2
    go_end0
    exact ⟨⟨_, rfl⟩, rfl⟩
set_option maxRecDepth 100000 in
theorem lookLeg_none {TB : TypeId} {gb o nb : Nat} {F : Nat → Value} {w : World} (hbk : BookAt w TB gb o nb F) (hf : F 8 = .slice none 0 0) : Calls Tryz.prog 87 #[.pointer (some ⟨gb, o, none⟩)] w fun e w' => e = .returned (.bool true) ∧ w' = w := by
  have cf : w.cell? ⟨gb, o + 9, none⟩ = some (.slice none 0 0) := hf ▸ (hbk.fld 8 (by decide)).1
  clear hbk hf
  go_enter Tryz.func87, Tryz.ntmps87
  go_wp2
  go_loopw [3] (fun i wr => i = .int .i64 0 ∧ wr = w) (fun _ _ => 0)
  case atStart => exact ⟨rfl, rfl⟩
  case round =>
    obtain ⟨rfl, rfl⟩ := hrel
    go_wp2
    go_ret
    exact ⟨rfl, rfl⟩

set_option maxRecDepth 100000 in
theorem fillStop_none {TB : TypeId} {gb o nb : Nat} {F : Nat → Value} {w : World} (hbk : BookAt w TB gb o nb F) (hf : F 9 = .slice none 0 0) : Calls Tryz.prog 38 #[.pointer (some ⟨gb, o, none⟩)] w fun e w' => (∃ v, e = .returned v) ∧ w' = w := by
  have cf : w.cell? ⟨gb, o + 10, none⟩ = some (.slice none 0 0) := hf ▸ (hbk.fld 9 (by decide)).1
  clear hbk hf
  go_enter Tryz.func38, Tryz.ntmps38
  go_wp2
  go_loopw [2] (fun i wr => i = .int .i64 0 ∧ wr = w) (fun _ _ => 0)
  case atStart => exact ⟨rfl, rfl⟩
  case round =>
    obtain ⟨rfl, rfl⟩ := hrel
    go_wp2
    go_end0
    exact ⟨⟨_, rfl⟩, rfl⟩
set_option maxRecDepth 100000 in
theorem growStop_none {TB : TypeId} {gb o nb : Nat} {F : Nat → Value} {w : World} (hbk : BookAt w TB gb o nb F) (hf : F 9 = .slice none 0 0) : Calls Tryz.prog 63 #[.pointer (some ⟨gb, o, none⟩)] w fun e w' => (∃ v, e = .returned v) ∧ w' = w := by
  have cf : w.cell? ⟨gb, o + 10, none⟩ = some (.slice none 0 0) := hf ▸ (hbk.fld 9 (by decide)).1
  clear hbk hf
  go_enter Tryz.func63, Tryz.ntmps63
  go_wp2
  go_loopw [2] (fun i wr => i = .int .i64 0 ∧ wr = w) (fun _ _ => 0)
  case atStart => exact ⟨rfl, rfl⟩
  case round =>
    obtain ⟨rfl, rfl⟩ := hrel
    go_wp2
    go_end0
    exact ⟨⟨_, rfl⟩, rfl⟩
set_option maxRecDepth 100000 in
theorem lookStop_none {TB : TypeId} {gb o nb : Nat} {F : Nat → Value} {w : World} (hbk : BookAt w TB gb o nb F) (hf : F 9 = .slice none 0 0) : Calls Tryz.prog 88 #[.pointer (some ⟨gb, o, none⟩)] w fun e w' => e = .returned (.bool true) ∧ w' = w := by
  have cf : w.cell? ⟨gb, o + 10, none⟩ = some (.slice none 0 0) := hf ▸ (hbk.fld 9 (by decide)).1
  clear hbk hf
  go_enter Tryz.func88, Tryz.ntmps88
  go_wp2
  go_loopw [3] (fun i wr => i = .int .i64 0 ∧ wr = w) (fun _ _ => 0)
  case atStart => exact ⟨rfl, rfl⟩
  case round =>
    obtain ⟨rfl, rfl⟩ := hrel
    go_wp2
    go_ret
    exact ⟨rfl, rfl⟩

set_option maxRecDepth 100000 in
theorem fillWaiting_none {TB : TypeId} {gb o nb : Nat} {F : Nat → Value} {w : World} (hbk : BookAt w TB gb o nb F) (hf : F 10 = .slice none 0 0) : Calls Tryz.prog 39 #[.pointer (some ⟨gb, o, none⟩)] w fun e w' => (∃ v, e = .returned v) ∧ w' = w := by
  have cf : w.cell? ⟨gb, o + 11, none⟩ = some (.slice none 0 0) := hf ▸ (hbk.fld 10 (by decide)).1
  clear hbk hf
  go_enter Tryz.func39, Tryz.ntmps39
  go_wp2
  go_loopw [2] (fun i wr => i = .int .i64 0 ∧ wr = w) (fun _ _ => 0)
  case atStart => exact ⟨rfl, rfl⟩
  case round =>
    obtain ⟨rfl, rfl⟩ := hrel
    go_wp2
    go_end0
    exact ⟨⟨_, rfl⟩, rfl⟩
set_option maxRecDepth 100000 in
theorem growWaiting_none {TB : TypeId} {gb o nb : Nat} {F : Nat → Value} {w : World} (hbk : BookAt w TB gb o nb F) (hf : F 10 = .slice none 0 0) : Calls Tryz.prog 64 #[.pointer (some ⟨gb, o, none⟩)] w fun e w' => (∃ v, e = .returned v) ∧ w' = w := by
  have cf : w.cell? ⟨gb, o + 11, none⟩ = some (.slice none 0 0) := hf ▸ (hbk.fld 10 (by decide)).1
  clear hbk hf
  go_enter Tryz.func64, Tryz.ntmps64
  go_wp2
  go_loopw [2] (fun i wr => i = .int .i64 0 ∧ wr = w) (fun _ _ => 0)
  case atStart => exact ⟨rfl, rfl⟩
  case round =>
    obtain ⟨rfl, rfl⟩ := hrel
    go_wp2
    go_end0
    exact ⟨⟨_, rfl⟩, rfl⟩
set_option maxRecDepth 100000 in
theorem lookWaiting_none {TB : TypeId} {gb o nb : Nat} {F : Nat → Value} {w : World} (hbk : BookAt w TB gb o nb F) (hf : F 10 = .slice none 0 0) : Calls Tryz.prog 89 #[.pointer (some ⟨gb, o, none⟩)] w fun e w' => e = .returned (.bool true) ∧ w' = w := by
  have cf : w.cell? ⟨gb, o + 11, none⟩ = some (.slice none 0 0) := hf ▸ (hbk.fld 10 (by decide)).1
  clear hbk hf
  go_enter Tryz.func89, Tryz.ntmps89
  go_wp2
  go_loopw [3] (fun i wr => i = .int .i64 0 ∧ wr = w) (fun _ _ => 0)
  case atStart => exact ⟨rfl, rfl⟩
  case round =>
    obtain ⟨rfl, rfl⟩ := hrel
    go_wp2
    go_ret
    exact ⟨rfl, rfl⟩

set_option maxRecDepth 100000 in
theorem fillIdle_none {TB : TypeId} {gb o nb : Nat} {F : Nat → Value} {w : World} (hbk : BookAt w TB gb o nb F) (hf : F 11 = .slice none 0 0) : Calls Tryz.prog 40 #[.pointer (some ⟨gb, o, none⟩)] w fun e w' => (∃ v, e = .returned v) ∧ w' = w := by
  have cf : w.cell? ⟨gb, o + 12, none⟩ = some (.slice none 0 0) := hf ▸ (hbk.fld 11 (by decide)).1
  clear hbk hf
  go_enter Tryz.func40, Tryz.ntmps40
  go_wp2
  go_loopw [2] (fun i wr => i = .int .i64 0 ∧ wr = w) (fun _ _ => 0)
  case atStart => exact ⟨rfl, rfl⟩
  case round =>
    obtain ⟨rfl, rfl⟩ := hrel
    go_wp2
    go_end0
    exact ⟨⟨_, rfl⟩, rfl⟩
set_option maxRecDepth 100000 in
theorem growIdle_none {TB : TypeId} {gb o nb : Nat} {F : Nat → Value} {w : World} (hbk : BookAt w TB gb o nb F) (hf : F 11 = .slice none 0 0) : Calls Tryz.prog 65 #[.pointer (some ⟨gb, o, none⟩)] w fun e w' => (∃ v, e = .returned v) ∧ w' = w := by
  have cf : w.cell? ⟨gb, o + 12, none⟩ = some (.slice none 0 0) := hf ▸ (hbk.fld 11 (by decide)).1
  clear hbk hf
  go_enter Tryz.func65, Tryz.ntmps65
  go_wp2
  go_loopw [2] (fun i wr => i = .int .i64 0 ∧ wr = w) (fun _ _ => 0)
  case atStart => exact ⟨rfl, rfl⟩
  case round =>
    obtain ⟨rfl, rfl⟩ := hrel
    go_wp2
    go_end0
    exact ⟨⟨_, rfl⟩, rfl⟩
set_option maxRecDepth 100000 in
theorem lookIdle_none {TB : TypeId} {gb o nb : Nat} {F : Nat → Value} {w : World} (hbk : BookAt w TB gb o nb F) (hf : F 11 = .slice none 0 0) : Calls Tryz.prog 90 #[.pointer (some ⟨gb, o, none⟩)] w fun e w' => e = .returned (.bool true) ∧ w' = w := by
  have cf : w.cell? ⟨gb, o + 12, none⟩ = some (.slice none 0 0) := hf ▸ (hbk.fld 11 (by decide)).1
  clear hbk hf
  go_enter Tryz.func90, Tryz.ntmps90
  go_wp2
  go_loopw [3] (fun i wr => i = .int .i64 0 ∧ wr = w) (fun _ _ => 0)
  case atStart => exact ⟨rfl, rfl⟩
  case round =>
    obtain ⟨rfl, rfl⟩ := hrel
    go_wp2
    go_ret
    exact ⟨rfl, rfl⟩

set_option maxRecDepth 100000 in
theorem fillPair_none {TB : TypeId} {gb o nb : Nat} {F : Nat → Value} {w : World} (hbk : BookAt w TB gb o nb F) (hf : F 12 = .slice none 0 0) : Calls Tryz.prog 41 #[.pointer (some ⟨gb, o, none⟩)] w fun e w' => (∃ v, e = .returned v) ∧ w' = w := by
  have cf : w.cell? ⟨gb, o + 13, none⟩ = some (.slice none 0 0) := hf ▸ (hbk.fld 12 (by decide)).1
  clear hbk hf
  go_enter Tryz.func41, Tryz.ntmps41
  go_wp2
  go_loopw [2] (fun i wr => i = .int .i64 0 ∧ wr = w) (fun _ _ => 0)
  case atStart => exact ⟨rfl, rfl⟩
  case round =>
    obtain ⟨rfl, rfl⟩ := hrel
    go_wp2
    go_end0
    exact ⟨⟨_, rfl⟩, rfl⟩
set_option maxRecDepth 100000 in
theorem growPair_none {TB : TypeId} {gb o nb : Nat} {F : Nat → Value} {w : World} (hbk : BookAt w TB gb o nb F) (hf : F 12 = .slice none 0 0) : Calls Tryz.prog 66 #[.pointer (some ⟨gb, o, none⟩)] w fun e w' => (∃ v, e = .returned v) ∧ w' = w := by
  have cf : w.cell? ⟨gb, o + 13, none⟩ = some (.slice none 0 0) := hf ▸ (hbk.fld 12 (by decide)).1
  clear hbk hf
  go_enter Tryz.func66, Tryz.ntmps66
  go_wp2
  go_loopw [2] (fun i wr => i = .int .i64 0 ∧ wr = w) (fun _ _ => 0)
  case atStart => exact ⟨rfl, rfl⟩
  case round =>
    obtain ⟨rfl, rfl⟩ := hrel
    go_wp2
    go_end0
    exact ⟨⟨_, rfl⟩, rfl⟩
set_option maxRecDepth 100000 in
theorem lookPair_none {TB : TypeId} {gb o nb : Nat} {F : Nat → Value} {w : World} (hbk : BookAt w TB gb o nb F) (hf : F 12 = .slice none 0 0) : Calls Tryz.prog 91 #[.pointer (some ⟨gb, o, none⟩)] w fun e w' => e = .returned (.bool true) ∧ w' = w := by
  have cf : w.cell? ⟨gb, o + 13, none⟩ = some (.slice none 0 0) := hf ▸ (hbk.fld 12 (by decide)).1
  clear hbk hf
  go_enter Tryz.func91, Tryz.ntmps91
  go_wp2
  go_loopw [3] (fun i wr => i = .int .i64 0 ∧ wr = w) (fun _ _ => 0)
  case atStart => exact ⟨rfl, rfl⟩
  case round =>
    obtain ⟨rfl, rfl⟩ := hrel
    go_wp2
    go_ret
    exact ⟨rfl, rfl⟩

set_option maxRecDepth 100000 in
theorem fillEdge_none {TB : TypeId} {gb o nb : Nat} {F : Nat → Value} {w : World} (hbk : BookAt w TB gb o nb F) (hf : F 13 = .slice none 0 0) : Calls Tryz.prog 42 #[.pointer (some ⟨gb, o, none⟩)] w fun e w' => (∃ v, e = .returned v) ∧ w' = w := by
  have cf : w.cell? ⟨gb, o + 14, none⟩ = some (.slice none 0 0) := hf ▸ (hbk.fld 13 (by decide)).1
  clear hbk hf
  go_enter Tryz.func42, Tryz.ntmps42
  go_wp2
  go_loopw [2] (fun i wr => i = .int .i64 0 ∧ wr = w) (fun _ _ => 0)
  case atStart => exact ⟨rfl, rfl⟩
  case round =>
    obtain ⟨rfl, rfl⟩ := hrel
    go_wp2
    go_end0
    exact ⟨⟨_, rfl⟩, rfl⟩
set_option maxRecDepth 100000 in
theorem growEdge_none {TB : TypeId} {gb o nb : Nat} {F : Nat → Value} {w : World} (hbk : BookAt w TB gb o nb F) (hf : F 13 = .slice none 0 0) : Calls Tryz.prog 67 #[.pointer (some ⟨gb, o, none⟩)] w fun e w' => (∃ v, e = .returned v) ∧ w' = w := by
  have cf : w.cell? ⟨gb, o + 14, none⟩ = some (.slice none 0 0) := hf ▸ (hbk.fld 13 (by decide)).1
  clear hbk hf
  go_enter Tryz.func67, Tryz.ntmps67
  go_wp2
  go_loopw [2] (fun i wr => i = .int .i64 0 ∧ wr = w) (fun _ _ => 0)
  case atStart => exact ⟨rfl, rfl⟩
  case round =>
    obtain ⟨rfl, rfl⟩ := hrel
    go_wp2
    go_end0
    exact ⟨⟨_, rfl⟩, rfl⟩
set_option maxRecDepth 100000 in
theorem lookEdge_none {TB : TypeId} {gb o nb : Nat} {F : Nat → Value} {w : World} (hbk : BookAt w TB gb o nb F) (hf : F 13 = .slice none 0 0) : Calls Tryz.prog 92 #[.pointer (some ⟨gb, o, none⟩)] w fun e w' => e = .returned (.bool true) ∧ w' = w := by
  have cf : w.cell? ⟨gb, o + 14, none⟩ = some (.slice none 0 0) := hf ▸ (hbk.fld 13 (by decide)).1
  clear hbk hf
  go_enter Tryz.func92, Tryz.ntmps92
  go_wp2
  go_loopw [3] (fun i wr => i = .int .i64 0 ∧ wr = w) (fun _ _ => 0)
  case atStart => exact ⟨rfl, rfl⟩
  case round =>
    obtain ⟨rfl, rfl⟩ := hrel
    go_wp2
    go_ret
    exact ⟨rfl, rfl⟩

set_option maxRecDepth 100000 in
theorem fillJourney_none {TB : TypeId} {gb o nb : Nat} {F : Nat → Value} {w : World} (hbk : BookAt w TB gb o nb F) (hf : F 14 = .slice none 0 0) : Calls Tryz.prog 43 #[.pointer (some ⟨gb, o, none⟩)] w fun e w' => (∃ v, e = .returned v) ∧ w' = w := by
  have cf : w.cell? ⟨gb, o + 15, none⟩ = some (.slice none 0 0) := hf ▸ (hbk.fld 14 (by decide)).1
  clear hbk hf
  go_enter Tryz.func43, Tryz.ntmps43
  go_wp2
  go_loopw [2] (fun i wr => i = .int .i64 0 ∧ wr = w) (fun _ _ => 0)
  case atStart => exact ⟨rfl, rfl⟩
  case round =>
    obtain ⟨rfl, rfl⟩ := hrel
    go_wp2
    go_end0
    exact ⟨⟨_, rfl⟩, rfl⟩
set_option maxRecDepth 100000 in
theorem growJourney_none {TB : TypeId} {gb o nb : Nat} {F : Nat → Value} {w : World} (hbk : BookAt w TB gb o nb F) (hf : F 14 = .slice none 0 0) : Calls Tryz.prog 68 #[.pointer (some ⟨gb, o, none⟩)] w fun e w' => (∃ v, e = .returned v) ∧ w' = w := by
  have cf : w.cell? ⟨gb, o + 15, none⟩ = some (.slice none 0 0) := hf ▸ (hbk.fld 14 (by decide)).1
  clear hbk hf
  go_enter Tryz.func68, Tryz.ntmps68
  go_wp2
  go_loopw [2] (fun i wr => i = .int .i64 0 ∧ wr = w) (fun _ _ => 0)
  case atStart => exact ⟨rfl, rfl⟩
  case round =>
    obtain ⟨rfl, rfl⟩ := hrel
    go_wp2
    go_end0
    exact ⟨⟨_, rfl⟩, rfl⟩
set_option maxRecDepth 100000 in
theorem lookJourney_none {TB : TypeId} {gb o nb : Nat} {F : Nat → Value} {w : World} (hbk : BookAt w TB gb o nb F) (hf : F 14 = .slice none 0 0) : Calls Tryz.prog 93 #[.pointer (some ⟨gb, o, none⟩)] w fun e w' => e = .returned (.bool true) ∧ w' = w := by
  have cf : w.cell? ⟨gb, o + 15, none⟩ = some (.slice none 0 0) := hf ▸ (hbk.fld 14 (by decide)).1
  clear hbk hf
  go_enter Tryz.func93, Tryz.ntmps93
  go_wp2
  go_loopw [3] (fun i wr => i = .int .i64 0 ∧ wr = w) (fun _ _ => 0)
  case atStart => exact ⟨rfl, rfl⟩
  case round =>
    obtain ⟨rfl, rfl⟩ := hrel
    go_wp2
    go_ret
    exact ⟨rfl, rfl⟩

set_option maxRecDepth 100000 in
theorem fillStanding_none {TB : TypeId} {gb o nb : Nat} {F : Nat → Value} {w : World} (hbk : BookAt w TB gb o nb F) (hf : F 15 = .slice none 0 0) : Calls Tryz.prog 44 #[.pointer (some ⟨gb, o, none⟩)] w fun e w' => (∃ v, e = .returned v) ∧ w' = w := by
  have cf : w.cell? ⟨gb, o + 16, none⟩ = some (.slice none 0 0) := hf ▸ (hbk.fld 15 (by decide)).1
  clear hbk hf
  go_enter Tryz.func44, Tryz.ntmps44
  go_wp2
  go_loopw [2] (fun i wr => i = .int .i64 0 ∧ wr = w) (fun _ _ => 0)
  case atStart => exact ⟨rfl, rfl⟩
  case round =>
    obtain ⟨rfl, rfl⟩ := hrel
    go_wp2
    go_end0
    exact ⟨⟨_, rfl⟩, rfl⟩
set_option maxRecDepth 100000 in
theorem growStanding_none {TB : TypeId} {gb o nb : Nat} {F : Nat → Value} {w : World} (hbk : BookAt w TB gb o nb F) (hf : F 15 = .slice none 0 0) : Calls Tryz.prog 69 #[.pointer (some ⟨gb, o, none⟩)] w fun e w' => (∃ v, e = .returned v) ∧ w' = w := by
  have cf : w.cell? ⟨gb, o + 16, none⟩ = some (.slice none 0 0) := hf ▸ (hbk.fld 15 (by decide)).1
  clear hbk hf
  go_enter Tryz.func69, Tryz.ntmps69
  go_wp2
  go_loopw [2] (fun i wr => i = .int .i64 0 ∧ wr = w) (fun _ _ => 0)
  case atStart => exact ⟨rfl, rfl⟩
  case round =>
    obtain ⟨rfl, rfl⟩ := hrel
    go_wp2
    go_end0
    exact ⟨⟨_, rfl⟩, rfl⟩
set_option maxRecDepth 100000 in
theorem lookStanding_none {TB : TypeId} {gb o nb : Nat} {F : Nat → Value} {w : World} (hbk : BookAt w TB gb o nb F) (hf : F 15 = .slice none 0 0) : Calls Tryz.prog 94 #[.pointer (some ⟨gb, o, none⟩)] w fun e w' => e = .returned (.bool true) ∧ w' = w := by
  have cf : w.cell? ⟨gb, o + 16, none⟩ = some (.slice none 0 0) := hf ▸ (hbk.fld 15 (by decide)).1
  clear hbk hf
  go_enter Tryz.func94, Tryz.ntmps94
  go_wp2
  go_loopw [3] (fun i wr => i = .int .i64 0 ∧ wr = w) (fun _ _ => 0)
  case atStart => exact ⟨rfl, rfl⟩
  case round =>
    obtain ⟨rfl, rfl⟩ := hrel
    go_wp2
    go_ret
    exact ⟨rfl, rfl⟩

set_option maxRecDepth 100000 in
theorem fillEntry_none {TB : TypeId} {gb o nb : Nat} {F : Nat → Value} {w : World} (hbk : BookAt w TB gb o nb F) (hf : F 16 = .slice none 0 0) : Calls Tryz.prog 45 #[.pointer (some ⟨gb, o, none⟩)] w fun e w' => (∃ v, e = .returned v) ∧ w' = w := by
  have cf : w.cell? ⟨gb, o + 17, none⟩ = some (.slice none 0 0) := hf ▸ (hbk.fld 16 (by decide)).1
  clear hbk hf
  go_enter Tryz.func45, Tryz.ntmps45
  go_wp2
  go_loopw [2] (fun i wr => i = .int .i64 0 ∧ wr = w) (fun _ _ => 0)
  case atStart => exact ⟨rfl, rfl⟩
  case round =>
    obtain ⟨rfl, rfl⟩ := hrel
    go_wp2
    go_end0
    exact ⟨⟨_, rfl⟩, rfl⟩
set_option maxRecDepth 100000 in
theorem growEntry_none {TB : TypeId} {gb o nb : Nat} {F : Nat → Value} {w : World} (hbk : BookAt w TB gb o nb F) (hf : F 16 = .slice none 0 0) : Calls Tryz.prog 70 #[.pointer (some ⟨gb, o, none⟩)] w fun e w' => (∃ v, e = .returned v) ∧ w' = w := by
  have cf : w.cell? ⟨gb, o + 17, none⟩ = some (.slice none 0 0) := hf ▸ (hbk.fld 16 (by decide)).1
  clear hbk hf
  go_enter Tryz.func70, Tryz.ntmps70
  go_wp2
  go_loopw [2] (fun i wr => i = .int .i64 0 ∧ wr = w) (fun _ _ => 0)
  case atStart => exact ⟨rfl, rfl⟩
  case round =>
    obtain ⟨rfl, rfl⟩ := hrel
    go_wp2
    go_end0
    exact ⟨⟨_, rfl⟩, rfl⟩
set_option maxRecDepth 100000 in
theorem lookEntry_none {TB : TypeId} {gb o nb : Nat} {F : Nat → Value} {w : World} (hbk : BookAt w TB gb o nb F) (hf : F 16 = .slice none 0 0) : Calls Tryz.prog 95 #[.pointer (some ⟨gb, o, none⟩)] w fun e w' => e = .returned (.bool true) ∧ w' = w := by
  have cf : w.cell? ⟨gb, o + 17, none⟩ = some (.slice none 0 0) := hf ▸ (hbk.fld 16 (by decide)).1
  clear hbk hf
  go_enter Tryz.func95, Tryz.ntmps95
  go_wp2
  go_loopw [3] (fun i wr => i = .int .i64 0 ∧ wr = w) (fun _ _ => 0)
  case atStart => exact ⟨rfl, rfl⟩
  case round =>
    obtain ⟨rfl, rfl⟩ := hrel
    go_wp2
    go_ret
    exact ⟨rfl, rfl⟩

set_option maxRecDepth 100000 in
theorem fillTrip_none {TB : TypeId} {gb o nb : Nat} {F : Nat → Value} {w : World} (hbk : BookAt w TB gb o nb F) (hf : F 17 = .slice none 0 0) : Calls Tryz.prog 46 #[.pointer (some ⟨gb, o, none⟩)] w fun e w' => (∃ v, e = .returned v) ∧ w' = w := by
  have cf : w.cell? ⟨gb, o + 18, none⟩ = some (.slice none 0 0) := hf ▸ (hbk.fld 17 (by decide)).1
  clear hbk hf
  go_enter Tryz.func46, Tryz.ntmps46
  go_wp2
  go_loopw [2] (fun i wr => i = .int .i64 0 ∧ wr = w) (fun _ _ => 0)
  case atStart => exact ⟨rfl, rfl⟩
  case round =>
    obtain ⟨rfl, rfl⟩ := hrel
    go_wp2
    go_end0
    exact ⟨⟨_, rfl⟩, rfl⟩
set_option maxRecDepth 100000 in
theorem growTrip_none {TB : TypeId} {gb o nb : Nat} {F : Nat → Value} {w : World} (hbk : BookAt w TB gb o nb F) (hf : F 17 = .slice none 0 0) : Calls Tryz.prog 71 #[.pointer (some ⟨gb, o, none⟩)] w fun e w' => (∃ v, e = .returned v) ∧ w' = w := by
  have cf : w.cell? ⟨gb, o + 18, none⟩ = some (.slice none 0 0) := hf ▸ (hbk.fld 17 (by decide)).1
  clear hbk hf
  go_enter Tryz.func71, Tryz.ntmps71
  go_wp2
  go_loopw [2] (fun i wr => i = .int .i64 0 ∧ wr = w) (fun _ _ => 0)
  case atStart => exact ⟨rfl, rfl⟩
  case round =>
    obtain ⟨rfl, rfl⟩ := hrel
    go_wp2
    go_end0
    exact ⟨⟨_, rfl⟩, rfl⟩
set_option maxRecDepth 100000 in
theorem lookTrip_none {TB : TypeId} {gb o nb : Nat} {F : Nat → Value} {w : World} (hbk : BookAt w TB gb o nb F) (hf : F 17 = .slice none 0 0) : Calls Tryz.prog 96 #[.pointer (some ⟨gb, o, none⟩)] w fun e w' => e = .returned (.bool true) ∧ w' = w := by
  have cf : w.cell? ⟨gb, o + 18, none⟩ = some (.slice none 0 0) := hf ▸ (hbk.fld 17 (by decide)).1
  clear hbk hf
  go_enter Tryz.func96, Tryz.ntmps96
  go_wp2
  go_loopw [3] (fun i wr => i = .int .i64 0 ∧ wr = w) (fun _ _ => 0)
  case atStart => exact ⟨rfl, rfl⟩
  case round =>
    obtain ⟨rfl, rfl⟩ := hrel
    go_wp2
    go_ret
    exact ⟨rfl, rfl⟩

set_option maxRecDepth 100000 in
theorem fillReply_none {TB : TypeId} {gb o nb : Nat} {F : Nat → Value} {w : World} (hbk : BookAt w TB gb o nb F) (hf : F 18 = .slice none 0 0) : Calls Tryz.prog 47 #[.pointer (some ⟨gb, o, none⟩)] w fun e w' => (∃ v, e = .returned v) ∧ w' = w := by
  have cf : w.cell? ⟨gb, o + 19, none⟩ = some (.slice none 0 0) := hf ▸ (hbk.fld 18 (by decide)).1
  clear hbk hf
  go_enter Tryz.func47, Tryz.ntmps47
  go_wp2
  go_loopw [2] (fun i wr => i = .int .i64 0 ∧ wr = w) (fun _ _ => 0)
  case atStart => exact ⟨rfl, rfl⟩
  case round =>
    obtain ⟨rfl, rfl⟩ := hrel
    go_wp2
    go_end0
    exact ⟨⟨_, rfl⟩, rfl⟩
set_option maxRecDepth 100000 in
theorem growReply_none {TB : TypeId} {gb o nb : Nat} {F : Nat → Value} {w : World} (hbk : BookAt w TB gb o nb F) (hf : F 18 = .slice none 0 0) : Calls Tryz.prog 72 #[.pointer (some ⟨gb, o, none⟩)] w fun e w' => (∃ v, e = .returned v) ∧ w' = w := by
  have cf : w.cell? ⟨gb, o + 19, none⟩ = some (.slice none 0 0) := hf ▸ (hbk.fld 18 (by decide)).1
  clear hbk hf
  go_enter Tryz.func72, Tryz.ntmps72
  go_wp2
  go_loopw [2] (fun i wr => i = .int .i64 0 ∧ wr = w) (fun _ _ => 0)
  case atStart => exact ⟨rfl, rfl⟩
  case round =>
    obtain ⟨rfl, rfl⟩ := hrel
    go_wp2
    go_end0
    exact ⟨⟨_, rfl⟩, rfl⟩
set_option maxRecDepth 100000 in
theorem lookReply_none {TB : TypeId} {gb o nb : Nat} {F : Nat → Value} {w : World} (hbk : BookAt w TB gb o nb F) (hf : F 18 = .slice none 0 0) : Calls Tryz.prog 97 #[.pointer (some ⟨gb, o, none⟩)] w fun e w' => e = .returned (.bool true) ∧ w' = w := by
  have cf : w.cell? ⟨gb, o + 19, none⟩ = some (.slice none 0 0) := hf ▸ (hbk.fld 18 (by decide)).1
  clear hbk hf
  go_enter Tryz.func97, Tryz.ntmps97
  go_wp2
  go_loopw [3] (fun i wr => i = .int .i64 0 ∧ wr = w) (fun _ _ => 0)
  case atStart => exact ⟨rfl, rfl⟩
  case round =>
    obtain ⟨rfl, rfl⟩ := hrel
    go_wp2
    go_ret
    exact ⟨rfl, rfl⟩

set_option maxRecDepth 100000 in
theorem fillFrame_none {TB : TypeId} {gb o nb : Nat} {F : Nat → Value} {w : World} (hbk : BookAt w TB gb o nb F) (hf : F 19 = .slice none 0 0) : Calls Tryz.prog 48 #[.pointer (some ⟨gb, o, none⟩)] w fun e w' => (∃ v, e = .returned v) ∧ w' = w := by
  have cf : w.cell? ⟨gb, o + 20, none⟩ = some (.slice none 0 0) := hf ▸ (hbk.fld 19 (by decide)).1
  clear hbk hf
  go_enter Tryz.func48, Tryz.ntmps48
  go_wp2
  go_loopw [2] (fun i wr => i = .int .i64 0 ∧ wr = w) (fun _ _ => 0)
  case atStart => exact ⟨rfl, rfl⟩
  case round =>
    obtain ⟨rfl, rfl⟩ := hrel
    go_wp2
    go_end0
    exact ⟨⟨_, rfl⟩, rfl⟩
set_option maxRecDepth 100000 in
theorem growFrame_none {TB : TypeId} {gb o nb : Nat} {F : Nat → Value} {w : World} (hbk : BookAt w TB gb o nb F) (hf : F 19 = .slice none 0 0) : Calls Tryz.prog 73 #[.pointer (some ⟨gb, o, none⟩)] w fun e w' => (∃ v, e = .returned v) ∧ w' = w := by
  have cf : w.cell? ⟨gb, o + 20, none⟩ = some (.slice none 0 0) := hf ▸ (hbk.fld 19 (by decide)).1
  clear hbk hf
  go_enter Tryz.func73, Tryz.ntmps73
  go_wp2
  go_loopw [2] (fun i wr => i = .int .i64 0 ∧ wr = w) (fun _ _ => 0)
  case atStart => exact ⟨rfl, rfl⟩
  case round =>
    obtain ⟨rfl, rfl⟩ := hrel
    go_wp2
    go_end0
    exact ⟨⟨_, rfl⟩, rfl⟩
set_option maxRecDepth 100000 in
theorem lookFrame_none {TB : TypeId} {gb o nb : Nat} {F : Nat → Value} {w : World} (hbk : BookAt w TB gb o nb F) (hf : F 19 = .slice none 0 0) : Calls Tryz.prog 98 #[.pointer (some ⟨gb, o, none⟩)] w fun e w' => e = .returned (.bool true) ∧ w' = w := by
  have cf : w.cell? ⟨gb, o + 20, none⟩ = some (.slice none 0 0) := hf ▸ (hbk.fld 19 (by decide)).1
  clear hbk hf
  go_enter Tryz.func98, Tryz.ntmps98
  go_wp2
  go_loopw [3] (fun i wr => i = .int .i64 0 ∧ wr = w) (fun _ _ => 0)
  case atStart => exact ⟨rfl, rfl⟩
  case round =>
    obtain ⟨rfl, rfl⟩ := hrel
    go_wp2
    go_ret
    exact ⟨rfl, rfl⟩

set_option maxRecDepth 100000 in
theorem fillCommand_none {TB : TypeId} {gb o nb : Nat} {F : Nat → Value} {w : World} (hbk : BookAt w TB gb o nb F) (hf : F 20 = .slice none 0 0) : Calls Tryz.prog 49 #[.pointer (some ⟨gb, o, none⟩)] w fun e w' => (∃ v, e = .returned v) ∧ w' = w := by
  have cf : w.cell? ⟨gb, o + 21, none⟩ = some (.slice none 0 0) := hf ▸ (hbk.fld 20 (by decide)).1
  clear hbk hf
  go_enter Tryz.func49, Tryz.ntmps49
  go_wp2
  go_loopw [2] (fun i wr => i = .int .i64 0 ∧ wr = w) (fun _ _ => 0)
  case atStart => exact ⟨rfl, rfl⟩
  case round =>
    obtain ⟨rfl, rfl⟩ := hrel
    go_wp2
    go_end0
    exact ⟨⟨_, rfl⟩, rfl⟩
set_option maxRecDepth 100000 in
theorem growCommand_none {TB : TypeId} {gb o nb : Nat} {F : Nat → Value} {w : World} (hbk : BookAt w TB gb o nb F) (hf : F 20 = .slice none 0 0) : Calls Tryz.prog 74 #[.pointer (some ⟨gb, o, none⟩)] w fun e w' => (∃ v, e = .returned v) ∧ w' = w := by
  have cf : w.cell? ⟨gb, o + 21, none⟩ = some (.slice none 0 0) := hf ▸ (hbk.fld 20 (by decide)).1
  clear hbk hf
  go_enter Tryz.func74, Tryz.ntmps74
  go_wp2
  go_loopw [2] (fun i wr => i = .int .i64 0 ∧ wr = w) (fun _ _ => 0)
  case atStart => exact ⟨rfl, rfl⟩
  case round =>
    obtain ⟨rfl, rfl⟩ := hrel
    go_wp2
    go_end0
    exact ⟨⟨_, rfl⟩, rfl⟩
set_option maxRecDepth 100000 in
theorem lookCommand_none {TB : TypeId} {gb o nb : Nat} {F : Nat → Value} {w : World} (hbk : BookAt w TB gb o nb F) (hf : F 20 = .slice none 0 0) : Calls Tryz.prog 99 #[.pointer (some ⟨gb, o, none⟩)] w fun e w' => e = .returned (.bool true) ∧ w' = w := by
  have cf : w.cell? ⟨gb, o + 21, none⟩ = some (.slice none 0 0) := hf ▸ (hbk.fld 20 (by decide)).1
  clear hbk hf
  go_enter Tryz.func99, Tryz.ntmps99
  go_wp2
  go_loopw [3] (fun i wr => i = .int .i64 0 ∧ wr = w) (fun _ _ => 0)
  case atStart => exact ⟨rfl, rfl⟩
  case round =>
    obtain ⟨rfl, rfl⟩ := hrel
    go_wp2
    go_ret
    exact ⟨rfl, rfl⟩

set_option maxRecDepth 100000 in
theorem fillByteList_none {TB : TypeId} {gb o nb : Nat} {F : Nat → Value} {w : World} (hbk : BookAt w TB gb o nb F) (hf : F 22 = .slice none 0 0) : Calls Tryz.prog 51 #[.pointer (some ⟨gb, o, none⟩)] w fun e w' => (∃ v, e = .returned v) ∧ w' = w := by
  have cf : w.cell? ⟨gb, o + 23, none⟩ = some (.slice none 0 0) := hf ▸ (hbk.fld 22 (by decide)).1
  clear hbk hf
  go_enter Tryz.func51, Tryz.ntmps51
  go_wp2
  go_loopw [2] (fun i wr => i = .int .i64 0 ∧ wr = w) (fun _ _ => 0)
  case atStart => exact ⟨rfl, rfl⟩
  case round =>
    obtain ⟨rfl, rfl⟩ := hrel
    go_wp2
    go_end0
    exact ⟨⟨_, rfl⟩, rfl⟩
set_option maxRecDepth 100000 in
theorem growByteList_none {TB : TypeId} {gb o nb : Nat} {F : Nat → Value} {w : World} (hbk : BookAt w TB gb o nb F) (hf : F 22 = .slice none 0 0) : Calls Tryz.prog 76 #[.pointer (some ⟨gb, o, none⟩)] w fun e w' => (∃ v, e = .returned v) ∧ w' = w := by
  have cf : w.cell? ⟨gb, o + 23, none⟩ = some (.slice none 0 0) := hf ▸ (hbk.fld 22 (by decide)).1
  clear hbk hf
  go_enter Tryz.func76, Tryz.ntmps76
  go_wp2
  go_loopw [2] (fun i wr => i = .int .i64 0 ∧ wr = w) (fun _ _ => 0)
  case atStart => exact ⟨rfl, rfl⟩
  case round =>
    obtain ⟨rfl, rfl⟩ := hrel
    go_wp2
    go_end0
    exact ⟨⟨_, rfl⟩, rfl⟩
set_option maxRecDepth 100000 in
theorem lookByteList_none {TB : TypeId} {gb o nb : Nat} {F : Nat → Value} {w : World} (hbk : BookAt w TB gb o nb F) (hf : F 22 = .slice none 0 0) : Calls Tryz.prog 101 #[.pointer (some ⟨gb, o, none⟩)] w fun e w' => e = .returned (.bool true) ∧ w' = w := by
  have cf : w.cell? ⟨gb, o + 23, none⟩ = some (.slice none 0 0) := hf ▸ (hbk.fld 22 (by decide)).1
  clear hbk hf
  go_enter Tryz.func101, Tryz.ntmps101
  go_wp2
  go_loopw [3] (fun i wr => i = .int .i64 0 ∧ wr = w) (fun _ _ => 0)
  case atStart => exact ⟨rfl, rfl⟩
  case round =>
    obtain ⟨rfl, rfl⟩ := hrel
    go_wp2
    go_ret
    exact ⟨rfl, rfl⟩

set_option maxRecDepth 100000 in
theorem fillReplyList_none {TB : TypeId} {gb o nb : Nat} {F : Nat → Value} {w : World} (hbk : BookAt w TB gb o nb F) (hf : F 23 = .slice none 0 0) : Calls Tryz.prog 52 #[.pointer (some ⟨gb, o, none⟩)] w fun e w' => (∃ v, e = .returned v) ∧ w' = w := by
  have cf : w.cell? ⟨gb, o + 24, none⟩ = some (.slice none 0 0) := hf ▸ (hbk.fld 23 (by decide)).1
  clear hbk hf
  go_enter Tryz.func52, Tryz.ntmps52
  go_wp2
  go_loopw [2] (fun i wr => i = .int .i64 0 ∧ wr = w) (fun _ _ => 0)
  case atStart => exact ⟨rfl, rfl⟩
  case round =>
    obtain ⟨rfl, rfl⟩ := hrel
    go_wp2
    go_end0
    exact ⟨⟨_, rfl⟩, rfl⟩
set_option maxRecDepth 100000 in
theorem growReplyList_none {TB : TypeId} {gb o nb : Nat} {F : Nat → Value} {w : World} (hbk : BookAt w TB gb o nb F) (hf : F 23 = .slice none 0 0) : Calls Tryz.prog 77 #[.pointer (some ⟨gb, o, none⟩)] w fun e w' => (∃ v, e = .returned v) ∧ w' = w := by
  have cf : w.cell? ⟨gb, o + 24, none⟩ = some (.slice none 0 0) := hf ▸ (hbk.fld 23 (by decide)).1
  clear hbk hf
  go_enter Tryz.func77, Tryz.ntmps77
  go_wp2
  go_loopw [2] (fun i wr => i = .int .i64 0 ∧ wr = w) (fun _ _ => 0)
  case atStart => exact ⟨rfl, rfl⟩
  case round =>
    obtain ⟨rfl, rfl⟩ := hrel
    go_wp2
    go_end0
    exact ⟨⟨_, rfl⟩, rfl⟩
set_option maxRecDepth 100000 in
theorem lookReplyList_none {TB : TypeId} {gb o nb : Nat} {F : Nat → Value} {w : World} (hbk : BookAt w TB gb o nb F) (hf : F 23 = .slice none 0 0) : Calls Tryz.prog 102 #[.pointer (some ⟨gb, o, none⟩)] w fun e w' => e = .returned (.bool true) ∧ w' = w := by
  have cf : w.cell? ⟨gb, o + 24, none⟩ = some (.slice none 0 0) := hf ▸ (hbk.fld 23 (by decide)).1
  clear hbk hf
  go_enter Tryz.func102, Tryz.ntmps102
  go_wp2
  go_loopw [3] (fun i wr => i = .int .i64 0 ∧ wr = w) (fun _ _ => 0)
  case atStart => exact ⟨rfl, rfl⟩
  case round =>
    obtain ⟨rfl, rfl⟩ := hrel
    go_wp2
    go_ret
    exact ⟨rfl, rfl⟩

set_option maxRecDepth 100000 in
theorem fillRecord_none {TB : TypeId} {gb o nb : Nat} {F : Nat → Value} {w : World} (hbk : BookAt w TB gb o nb F) (hf : F 24 = .slice none 0 0) : Calls Tryz.prog 53 #[.pointer (some ⟨gb, o, none⟩)] w fun e w' => (∃ v, e = .returned v) ∧ w' = w := by
  have cf : w.cell? ⟨gb, o + 25, none⟩ = some (.slice none 0 0) := hf ▸ (hbk.fld 24 (by decide)).1
  clear hbk hf
  go_enter Tryz.func53, Tryz.ntmps53
  go_wp2
  go_loopw [2] (fun i wr => i = .int .i64 0 ∧ wr = w) (fun _ _ => 0)
  case atStart => exact ⟨rfl, rfl⟩
  case round =>
    obtain ⟨rfl, rfl⟩ := hrel
    go_wp2
    go_end0
    exact ⟨⟨_, rfl⟩, rfl⟩
set_option maxRecDepth 100000 in
theorem growRecord_none {TB : TypeId} {gb o nb : Nat} {F : Nat → Value} {w : World} (hbk : BookAt w TB gb o nb F) (hf : F 24 = .slice none 0 0) : Calls Tryz.prog 78 #[.pointer (some ⟨gb, o, none⟩)] w fun e w' => (∃ v, e = .returned v) ∧ w' = w := by
  have cf : w.cell? ⟨gb, o + 25, none⟩ = some (.slice none 0 0) := hf ▸ (hbk.fld 24 (by decide)).1
  clear hbk hf
  go_enter Tryz.func78, Tryz.ntmps78
  go_wp2
  go_loopw [2] (fun i wr => i = .int .i64 0 ∧ wr = w) (fun _ _ => 0)
  case atStart => exact ⟨rfl, rfl⟩
  case round =>
    obtain ⟨rfl, rfl⟩ := hrel
    go_wp2
    go_end0
    exact ⟨⟨_, rfl⟩, rfl⟩
set_option maxRecDepth 100000 in
theorem lookRecord_none {TB : TypeId} {gb o nb : Nat} {F : Nat → Value} {w : World} (hbk : BookAt w TB gb o nb F) (hf : F 24 = .slice none 0 0) : Calls Tryz.prog 103 #[.pointer (some ⟨gb, o, none⟩)] w fun e w' => e = .returned (.bool true) ∧ w' = w := by
  have cf : w.cell? ⟨gb, o + 25, none⟩ = some (.slice none 0 0) := hf ▸ (hbk.fld 24 (by decide)).1
  clear hbk hf
  go_enter Tryz.func103, Tryz.ntmps103
  go_wp2
  go_loopw [3] (fun i wr => i = .int .i64 0 ∧ wr = w) (fun _ _ => 0)
  case atStart => exact ⟨rfl, rfl⟩
  case round =>
    obtain ⟨rfl, rfl⟩ := hrel
    go_wp2
    go_ret
    exact ⟨rfl, rfl⟩
end Go.Proofs.YtjhomkdnhdhffaaGreat.I
