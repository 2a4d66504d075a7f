/- How the operations of a State run; How slices.SortStableFunc runs; What an operation of a State does. Conditions: those that each theorem names, and no others. -/
import Derived.Test.YthooafgfpnedhaaMini3
import Derived.Test.YthooafgfpnedhaaChecked
namespace Go.Proofs.Ythooafgfpnedhaa.specsDo
open Go Go.Mini
abbrev jq : AV := .tuple [.nilMap]
abbrev uD : AV := .tuple []
abbrev iN (n : Nat) : AV := .int .i64 (Int.ofNat n)
abbrev iB (n : Nat) : AV := .int .u8 (Int.ofNat n)
abbrev iW (n : Int) : AV := .int .u64 n
def none_ : Task → Option Res := fun _ => none
theorem none_sound {P : Program} : ∀ t r, none_ t = some r → Sound P t r := fun _ _ h => by cases h
theorem mixed : Try.prog.follows .mixedOrders = true := by kernel_rfl
theorem d0y (M _ : AObj) (_ _ : Nat) (_ _ : List AV) (t q : AV) (k v x : Int) : runX Try.prog none_ 80 9 (.call 9 [.ptr 4 0, .int .u8 0, iW k, iW v] ⟨⟨[(4, .cells false [.map 5, t, q]), (5, M)], 2, none, []⟩, 8⟩) [.val 42 1 4 (.tuple [iW x, .bool true])] = some ({ e := .ret, ts := [.tuple [iB 2, iW (Int.ofNat 0)]], s := ⟨⟨[(4, .cells false [.map 5, t, q]), (5, M)], 2, some 8, []⟩, 15⟩ }, [], [Qst.lk 34 ⟨⟨[(14, .cells false [.func (Fn.func 51) [] []]), (13, .cells false [.func (Fn.func 50) [] []]), (12, .cells false [.func (Fn.func 47) [] []]), (11, .cells false [.func (Fn.func 45) [] []]), (10, .cells false [.func (Fn.func 43) [] []]), (9, .cells false [.func (Fn.func 41) [] []]), (8, .map [(iB 0, .func (Fn.func 58) [] [.ptr 9 0]), (iB 1, .func (Fn.func 58) [] [.ptr 10 0]), (iB 2, .func (Fn.func 58) [] [.ptr 11 0]), (iB 3, .func (Fn.func 58) [] [.ptr 12 0]), (iB 4, .func (Fn.func 48) [] []), (iB 5, .func (Fn.func 58) [] [.ptr 13 0]), (iB 6, .func (Fn.func 58) [] [.ptr 14 0]), (iB 7, .func (Fn.func 52) [] [])] [0, 1, 2, 3, 4, 5, 6, 7] 8), (4, .cells false [.map 5, t, q]), (5, M)], 9, none, []⟩, 15⟩ (.map 5) (iW k) true (.tuple [iW x, .bool true])]) := by kernel_rfl
theorem d0a (M M2 : AObj) (_ _ : Nat) (_ _ : List AV) (t q : AV) (k v x : Int) : runX Try.prog none_ 80 9 (.call 9 [.ptr 4 0, .int .u8 0, iW k, iW v] ⟨⟨[(4, .cells false [.map 5, t, q]), (5, M)], 2, none, []⟩, 8⟩) [.val 42 1 4 (.tuple [iW x, .bool false]), .eff 42 6 5 uD (fun s => s.set 5 M2)] = some ({ e := .ret, ts := [.tuple [iB 1, iW (Int.ofNat 0)]], s := ⟨⟨[(4, .cells false [.map 5, t, q]), (5, M2)], 2, some 8, [5]⟩, 15⟩ }, [], [Qst.lk 34 ⟨⟨[(14, .cells false [.func (Fn.func 51) [] []]), (13, .cells false [.func (Fn.func 50) [] []]), (12, .cells false [.func (Fn.func 47) [] []]), (11, .cells false [.func (Fn.func 45) [] []]), (10, .cells false [.func (Fn.func 43) [] []]), (9, .cells false [.func (Fn.func 41) [] []]), (8, .map [(iB 0, .func (Fn.func 58) [] [.ptr 9 0]), (iB 1, .func (Fn.func 58) [] [.ptr 10 0]), (iB 2, .func (Fn.func 58) [] [.ptr 11 0]), (iB 3, .func (Fn.func 58) [] [.ptr 12 0]), (iB 4, .func (Fn.func 48) [] []), (iB 5, .func (Fn.func 58) [] [.ptr 13 0]), (iB 6, .func (Fn.func 58) [] [.ptr 14 0]), (iB 7, .func (Fn.func 52) [] [])] [0, 1, 2, 3, 4, 5, 6, 7] 8), (4, .cells false [.map 5, t, q]), (5, M)], 9, none, []⟩, 15⟩ (.map 5) (iW k) true (.tuple [iW x, .bool false]), Qst.upd 34 ⟨⟨[(14, .cells false [.func (Fn.func 51) [] []]), (13, .cells false [.func (Fn.func 50) [] []]), (12, .cells false [.func (Fn.func 47) [] []]), (11, .cells false [.func (Fn.func 45) [] []]), (10, .cells false [.func (Fn.func 43) [] []]), (9, .cells false [.func (Fn.func 41) [] []]), (8, .map [(iB 0, .func (Fn.func 58) [] [.ptr 9 0]), (iB 1, .func (Fn.func 58) [] [.ptr 10 0]), (iB 2, .func (Fn.func 58) [] [.ptr 11 0]), (iB 3, .func (Fn.func 58) [] [.ptr 12 0]), (iB 4, .func (Fn.func 48) [] []), (iB 5, .func (Fn.func 58) [] [.ptr 13 0]), (iB 6, .func (Fn.func 58) [] [.ptr 14 0]), (iB 7, .func (Fn.func 52) [] [])] [0, 1, 2, 3, 4, 5, 6, 7] 8), (4, .cells false [.map 5, t, q]), (5, M)], 9, none, []⟩, 15⟩ (.map 5) (iW k) (iW (Int.ofNat 0)) (uD) ⟨⟨[(14, .cells false [.func (Fn.func 51) [] []]), (13, .cells false [.func (Fn.func 50) [] []]), (12, .cells false [.func (Fn.func 47) [] []]), (11, .cells false [.func (Fn.func 45) [] []]), (10, .cells false [.func (Fn.func 43) [] []]), (9, .cells false [.func (Fn.func 41) [] []]), (8, .map [(iB 0, .func (Fn.func 58) [] [.ptr 9 0]), (iB 1, .func (Fn.func 58) [] [.ptr 10 0]), (iB 2, .func (Fn.func 58) [] [.ptr 11 0]), (iB 3, .func (Fn.func 58) [] [.ptr 12 0]), (iB 4, .func (Fn.func 48) [] []), (iB 5, .func (Fn.func 58) [] [.ptr 13 0]), (iB 6, .func (Fn.func 58) [] [.ptr 14 0]), (iB 7, .func (Fn.func 52) [] [])] [0, 1, 2, 3, 4, 5, 6, 7] 8), (4, .cells false [.map 5, t, q]), (5, M2)], 9, none, [5]⟩, 15⟩]) := by kernel_rfl
theorem d0n (_ _ : AObj) (_ _ : Nat) (_ _ : List AV) (t q : AV) (k v _ : Int) : runX Try.prog none_ 80 9 (.call 9 [.ptr 4 0, .int .u8 0, iW k, iW v] ⟨⟨[(4, .cells false [.nilMap, t, q])], 1, none, []⟩, 8⟩) [] = some ({ e := .ret, ts := [.tuple [iB 1, iW (Int.ofNat 0)]], s := ⟨⟨[(15, .map [(iW k, iW (Int.ofNat 0))] [0] 1), (14, .cells false [.func (Fn.func 51) [] []]), (13, .cells false [.func (Fn.func 50) [] []]), (12, .cells false [.func (Fn.func 47) [] []]), (11, .cells false [.func (Fn.func 45) [] []]), (10, .cells false [.func (Fn.func 43) [] []]), (9, .cells false [.func (Fn.func 41) [] []]), (8, .map [(iB 0, .func (Fn.func 58) [] [.ptr 9 0]), (iB 1, .func (Fn.func 58) [] [.ptr 10 0]), (iB 2, .func (Fn.func 58) [] [.ptr 11 0]), (iB 3, .func (Fn.func 58) [] [.ptr 12 0]), (iB 4, .func (Fn.func 48) [] []), (iB 5, .func (Fn.func 58) [] [.ptr 13 0]), (iB 6, .func (Fn.func 58) [] [.ptr 14 0]), (iB 7, .func (Fn.func 52) [] [])] [0, 1, 2, 3, 4, 5, 6, 7] 8), (4, .cells false [.map 15, t, q])], 9, some 4, [4]⟩, 16⟩ }, [], []) := by kernel_rfl
theorem d1y (M M2 : AObj) (_ _ : Nat) (_ _ : List AV) (t q : AV) (k v x : Int) : runX Try.prog none_ 80 9 (.call 9 [.ptr 4 0, .int .u8 1, iW k, iW v] ⟨⟨[(4, .cells false [.map 5, t, q]), (5, M)], 2, none, []⟩, 8⟩) [.val 44 1 2 (.tuple [iW x, .bool true]), .eff 44 2 2 uD (fun s => s.set 5 M2)] = some ({ e := .ret, ts := [.tuple [iB 1, iW (Int.ofNat 0)]], s := ⟨⟨[(4, .cells false [.map 5, t, q]), (5, M2)], 2, some 8, [5]⟩, 15⟩ }, [], [Qst.lk 34 ⟨⟨[(14, .cells false [.func (Fn.func 51) [] []]), (13, .cells false [.func (Fn.func 50) [] []]), (12, .cells false [.func (Fn.func 47) [] []]), (11, .cells false [.func (Fn.func 45) [] []]), (10, .cells false [.func (Fn.func 43) [] []]), (9, .cells false [.func (Fn.func 41) [] []]), (8, .map [(iB 0, .func (Fn.func 58) [] [.ptr 9 0]), (iB 1, .func (Fn.func 58) [] [.ptr 10 0]), (iB 2, .func (Fn.func 58) [] [.ptr 11 0]), (iB 3, .func (Fn.func 58) [] [.ptr 12 0]), (iB 4, .func (Fn.func 48) [] []), (iB 5, .func (Fn.func 58) [] [.ptr 13 0]), (iB 6, .func (Fn.func 58) [] [.ptr 14 0]), (iB 7, .func (Fn.func 52) [] [])] [0, 1, 2, 3, 4, 5, 6, 7] 8), (4, .cells false [.map 5, t, q]), (5, M)], 9, none, []⟩, 15⟩ (.map 5) (iW k) true (.tuple [iW x, .bool true]), Qst.del ⟨⟨[(14, .cells false [.func (Fn.func 51) [] []]), (13, .cells false [.func (Fn.func 50) [] []]), (12, .cells false [.func (Fn.func 47) [] []]), (11, .cells false [.func (Fn.func 45) [] []]), (10, .cells false [.func (Fn.func 43) [] []]), (9, .cells false [.func (Fn.func 41) [] []]), (8, .map [(iB 0, .func (Fn.func 58) [] [.ptr 9 0]), (iB 1, .func (Fn.func 58) [] [.ptr 10 0]), (iB 2, .func (Fn.func 58) [] [.ptr 11 0]), (iB 3, .func (Fn.func 58) [] [.ptr 12 0]), (iB 4, .func (Fn.func 48) [] []), (iB 5, .func (Fn.func 58) [] [.ptr 13 0]), (iB 6, .func (Fn.func 58) [] [.ptr 14 0]), (iB 7, .func (Fn.func 52) [] [])] [0, 1, 2, 3, 4, 5, 6, 7] 8), (4, .cells false [.map 5, t, q]), (5, M)], 9, none, []⟩, 15⟩ 34 (.map 5) (iW k) (uD) ⟨⟨[(14, .cells false [.func (Fn.func 51) [] []]), (13, .cells false [.func (Fn.func 50) [] []]), (12, .cells false [.func (Fn.func 47) [] []]), (11, .cells false [.func (Fn.func 45) [] []]), (10, .cells false [.func (Fn.func 43) [] []]), (9, .cells false [.func (Fn.func 41) [] []]), (8, .map [(iB 0, .func (Fn.func 58) [] [.ptr 9 0]), (iB 1, .func (Fn.func 58) [] [.ptr 10 0]), (iB 2, .func (Fn.func 58) [] [.ptr 11 0]), (iB 3, .func (Fn.func 58) [] [.ptr 12 0]), (iB 4, .func (Fn.func 48) [] []), (iB 5, .func (Fn.func 58) [] [.ptr 13 0]), (iB 6, .func (Fn.func 58) [] [.ptr 14 0]), (iB 7, .func (Fn.func 52) [] [])] [0, 1, 2, 3, 4, 5, 6, 7] 8), (4, .cells false [.map 5, t, q]), (5, M2)], 9, none, [5]⟩, 15⟩]) := by kernel_rfl
theorem d1a (M _ : AObj) (_ _ : Nat) (_ _ : List AV) (t q : AV) (k v x : Int) : runX Try.prog none_ 80 9 (.call 9 [.ptr 4 0, .int .u8 1, iW k, iW v] ⟨⟨[(4, .cells false [.map 5, t, q]), (5, M)], 2, none, []⟩, 8⟩) [.val 44 1 2 (.tuple [iW x, .bool false]), .eff 44 2 2 uD (fun s => s)] = some ({ e := .ret, ts := [.tuple [iB 2, iW (Int.ofNat 0)]], s := ⟨⟨[(4, .cells false [.map 5, t, q]), (5, M)], 2, some 8, []⟩, 15⟩ }, [], [Qst.lk 34 ⟨⟨[(14, .cells false [.func (Fn.func 51) [] []]), (13, .cells false [.func (Fn.func 50) [] []]), (12, .cells false [.func (Fn.func 47) [] []]), (11, .cells false [.func (Fn.func 45) [] []]), (10, .cells false [.func (Fn.func 43) [] []]), (9, .cells false [.func (Fn.func 41) [] []]), (8, .map [(iB 0, .func (Fn.func 58) [] [.ptr 9 0]), (iB 1, .func (Fn.func 58) [] [.ptr 10 0]), (iB 2, .func (Fn.func 58) [] [.ptr 11 0]), (iB 3, .func (Fn.func 58) [] [.ptr 12 0]), (iB 4, .func (Fn.func 48) [] []), (iB 5, .func (Fn.func 58) [] [.ptr 13 0]), (iB 6, .func (Fn.func 58) [] [.ptr 14 0]), (iB 7, .func (Fn.func 52) [] [])] [0, 1, 2, 3, 4, 5, 6, 7] 8), (4, .cells false [.map 5, t, q]), (5, M)], 9, none, []⟩, 15⟩ (.map 5) (iW k) true (.tuple [iW x, .bool false]), Qst.del ⟨⟨[(14, .cells false [.func (Fn.func 51) [] []]), (13, .cells false [.func (Fn.func 50) [] []]), (12, .cells false [.func (Fn.func 47) [] []]), (11, .cells false [.func (Fn.func 45) [] []]), (10, .cells false [.func (Fn.func 43) [] []]), (9, .cells false [.func (Fn.func 41) [] []]), (8, .map [(iB 0, .func (Fn.func 58) [] [.ptr 9 0]), (iB 1, .func (Fn.func 58) [] [.ptr 10 0]), (iB 2, .func (Fn.func 58) [] [.ptr 11 0]), (iB 3, .func (Fn.func 58) [] [.ptr 12 0]), (iB 4, .func (Fn.func 48) [] []), (iB 5, .func (Fn.func 58) [] [.ptr 13 0]), (iB 6, .func (Fn.func 58) [] [.ptr 14 0]), (iB 7, .func (Fn.func 52) [] [])] [0, 1, 2, 3, 4, 5, 6, 7] 8), (4, .cells false [.map 5, t, q]), (5, M)], 9, none, []⟩, 15⟩ 34 (.map 5) (iW k) (uD) ⟨⟨[(14, .cells false [.func (Fn.func 51) [] []]), (13, .cells false [.func (Fn.func 50) [] []]), (12, .cells false [.func (Fn.func 47) [] []]), (11, .cells false [.func (Fn.func 45) [] []]), (10, .cells false [.func (Fn.func 43) [] []]), (9, .cells false [.func (Fn.func 41) [] []]), (8, .map [(iB 0, .func (Fn.func 58) [] [.ptr 9 0]), (iB 1, .func (Fn.func 58) [] [.ptr 10 0]), (iB 2, .func (Fn.func 58) [] [.ptr 11 0]), (iB 3, .func (Fn.func 58) [] [.ptr 12 0]), (iB 4, .func (Fn.func 48) [] []), (iB 5, .func (Fn.func 58) [] [.ptr 13 0]), (iB 6, .func (Fn.func 58) [] [.ptr 14 0]), (iB 7, .func (Fn.func 52) [] [])] [0, 1, 2, 3, 4, 5, 6, 7] 8), (4, .cells false [.map 5, t, q]), (5, M)], 9, none, []⟩, 15⟩]) := by kernel_rfl
theorem d1n (_ _ : AObj) (_ _ : Nat) (_ _ : List AV) (t q : AV) (k v _ : Int) : runX Try.prog none_ 80 9 (.call 9 [.ptr 4 0, .int .u8 1, iW k, iW v] ⟨⟨[(4, .cells false [.nilMap, t, q])], 1, none, []⟩, 8⟩) [] = some ({ e := .ret, ts := [.tuple [iB 2, iW (Int.ofNat 0)]], s := ⟨⟨[(4, .cells false [.nilMap, t, q])], 1, some 8, []⟩, 15⟩ }, [], []) := by kernel_rfl
theorem d2y (M _ : AObj) (_ _ : Nat) (_ _ : List AV) (t q : AV) (k v x : Int) : runX Try.prog none_ 80 9 (.call 9 [.ptr 4 0, .int .u8 2, iW k, iW v] ⟨⟨[(4, .cells false [.map 5, t, q]), (5, M)], 2, none, []⟩, 8⟩) [.val 45 1 5 (.tuple [iW x, .bool true])] = some ({ e := .ret, ts := [.tuple [iB 1, iW (Int.ofNat 0)]], s := ⟨⟨[(4, .cells false [.map 5, t, q]), (5, M)], 2, some 8, []⟩, 15⟩ }, [], [Qst.lk 34 ⟨⟨[(14, .cells false [.func (Fn.func 51) [] []]), (13, .cells false [.func (Fn.func 50) [] []]), (12, .cells false [.func (Fn.func 47) [] []]), (11, .cells false [.func (Fn.func 45) [] []]), (10, .cells false [.func (Fn.func 43) [] []]), (9, .cells false [.func (Fn.func 41) [] []]), (8, .map [(iB 0, .func (Fn.func 58) [] [.ptr 9 0]), (iB 1, .func (Fn.func 58) [] [.ptr 10 0]), (iB 2, .func (Fn.func 58) [] [.ptr 11 0]), (iB 3, .func (Fn.func 58) [] [.ptr 12 0]), (iB 4, .func (Fn.func 48) [] []), (iB 5, .func (Fn.func 58) [] [.ptr 13 0]), (iB 6, .func (Fn.func 58) [] [.ptr 14 0]), (iB 7, .func (Fn.func 52) [] [])] [0, 1, 2, 3, 4, 5, 6, 7] 8), (4, .cells false [.map 5, t, q]), (5, M)], 9, none, []⟩, 15⟩ (.map 5) (iW k) true (.tuple [iW x, .bool true])]) := by kernel_rfl
theorem d2a (M _ : AObj) (_ _ : Nat) (_ _ : List AV) (t q : AV) (k v x : Int) : runX Try.prog none_ 80 9 (.call 9 [.ptr 4 0, .int .u8 2, iW k, iW v] ⟨⟨[(4, .cells false [.map 5, t, q]), (5, M)], 2, none, []⟩, 8⟩) [.val 45 1 5 (.tuple [iW x, .bool false])] = some ({ e := .ret, ts := [.tuple [iB 2, iW (Int.ofNat 0)]], s := ⟨⟨[(4, .cells false [.map 5, t, q]), (5, M)], 2, some 8, []⟩, 15⟩ }, [], [Qst.lk 34 ⟨⟨[(14, .cells false [.func (Fn.func 51) [] []]), (13, .cells false [.func (Fn.func 50) [] []]), (12, .cells false [.func (Fn.func 47) [] []]), (11, .cells false [.func (Fn.func 45) [] []]), (10, .cells false [.func (Fn.func 43) [] []]), (9, .cells false [.func (Fn.func 41) [] []]), (8, .map [(iB 0, .func (Fn.func 58) [] [.ptr 9 0]), (iB 1, .func (Fn.func 58) [] [.ptr 10 0]), (iB 2, .func (Fn.func 58) [] [.ptr 11 0]), (iB 3, .func (Fn.func 58) [] [.ptr 12 0]), (iB 4, .func (Fn.func 48) [] []), (iB 5, .func (Fn.func 58) [] [.ptr 13 0]), (iB 6, .func (Fn.func 58) [] [.ptr 14 0]), (iB 7, .func (Fn.func 52) [] [])] [0, 1, 2, 3, 4, 5, 6, 7] 8), (4, .cells false [.map 5, t, q]), (5, M)], 9, none, []⟩, 15⟩ (.map 5) (iW k) true (.tuple [iW x, .bool false])]) := by kernel_rfl
theorem d2n (_ _ : AObj) (_ _ : Nat) (_ _ : List AV) (t q : AV) (k v _ : Int) : runX Try.prog none_ 80 9 (.call 9 [.ptr 4 0, .int .u8 2, iW k, iW v] ⟨⟨[(4, .cells false [.nilMap, t, q])], 1, none, []⟩, 8⟩) [] = some ({ e := .ret, ts := [.tuple [iB 2, iW (Int.ofNat 0)]], s := ⟨⟨[(4, .cells false [.nilMap, t, q])], 1, some 8, []⟩, 15⟩ }, [], []) := by kernel_rfl
theorem d5y (M _ : AObj) (_ _ : Nat) (_ _ : List AV) (t q : AV) (k v x : Int) : runX Try.prog none_ 80 9 (.call 9 [.ptr 4 0, .int .u8 5, iW k, iW v] ⟨⟨[(4, .cells false [t, .map 5, q]), (5, M)], 2, none, []⟩, 8⟩) [.val 42 1 4 (.tuple [iW x, .bool true])] = some ({ e := .ret, ts := [.tuple [iB 2, iW (Int.ofNat 0)]], s := ⟨⟨[(4, .cells false [t, .map 5, q]), (5, M)], 2, some 8, []⟩, 15⟩ }, [], [Qst.lk 34 ⟨⟨[(14, .cells false [.func (Fn.func 51) [] []]), (13, .cells false [.func (Fn.func 50) [] []]), (12, .cells false [.func (Fn.func 47) [] []]), (11, .cells false [.func (Fn.func 45) [] []]), (10, .cells false [.func (Fn.func 43) [] []]), (9, .cells false [.func (Fn.func 41) [] []]), (8, .map [(iB 0, .func (Fn.func 58) [] [.ptr 9 0]), (iB 1, .func (Fn.func 58) [] [.ptr 10 0]), (iB 2, .func (Fn.func 58) [] [.ptr 11 0]), (iB 3, .func (Fn.func 58) [] [.ptr 12 0]), (iB 4, .func (Fn.func 48) [] []), (iB 5, .func (Fn.func 58) [] [.ptr 13 0]), (iB 6, .func (Fn.func 58) [] [.ptr 14 0]), (iB 7, .func (Fn.func 52) [] [])] [0, 1, 2, 3, 4, 5, 6, 7] 8), (4, .cells false [t, .map 5, q]), (5, M)], 9, none, []⟩, 15⟩ (.map 5) (iW k) true (.tuple [iW x, .bool true])]) := by kernel_rfl
theorem d5a (M M2 : AObj) (_ _ : Nat) (_ _ : List AV) (t q : AV) (k v x : Int) : runX Try.prog none_ 80 9 (.call 9 [.ptr 4 0, .int .u8 5, iW k, iW v] ⟨⟨[(4, .cells false [t, .map 5, q]), (5, M)], 2, none, []⟩, 8⟩) [.val 42 1 4 (.tuple [iW x, .bool false]), .eff 42 6 5 uD (fun s => s.set 5 M2)] = some ({ e := .ret, ts := [.tuple [iB 1, iW (Int.ofNat 0)]], s := ⟨⟨[(4, .cells false [t, .map 5, q]), (5, M2)], 2, some 8, [5]⟩, 15⟩ }, [], [Qst.lk 34 ⟨⟨[(14, .cells false [.func (Fn.func 51) [] []]), (13, .cells false [.func (Fn.func 50) [] []]), (12, .cells false [.func (Fn.func 47) [] []]), (11, .cells false [.func (Fn.func 45) [] []]), (10, .cells false [.func (Fn.func 43) [] []]), (9, .cells false [.func (Fn.func 41) [] []]), (8, .map [(iB 0, .func (Fn.func 58) [] [.ptr 9 0]), (iB 1, .func (Fn.func 58) [] [.ptr 10 0]), (iB 2, .func (Fn.func 58) [] [.ptr 11 0]), (iB 3, .func (Fn.func 58) [] [.ptr 12 0]), (iB 4, .func (Fn.func 48) [] []), (iB 5, .func (Fn.func 58) [] [.ptr 13 0]), (iB 6, .func (Fn.func 58) [] [.ptr 14 0]), (iB 7, .func (Fn.func 52) [] [])] [0, 1, 2, 3, 4, 5, 6, 7] 8), (4, .cells false [t, .map 5, q]), (5, M)], 9, none, []⟩, 15⟩ (.map 5) (iW k) true (.tuple [iW x, .bool false]), Qst.upd 34 ⟨⟨[(14, .cells false [.func (Fn.func 51) [] []]), (13, .cells false [.func (Fn.func 50) [] []]), (12, .cells false [.func (Fn.func 47) [] []]), (11, .cells false [.func (Fn.func 45) [] []]), (10, .cells false [.func (Fn.func 43) [] []]), (9, .cells false [.func (Fn.func 41) [] []]), (8, .map [(iB 0, .func (Fn.func 58) [] [.ptr 9 0]), (iB 1, .func (Fn.func 58) [] [.ptr 10 0]), (iB 2, .func (Fn.func 58) [] [.ptr 11 0]), (iB 3, .func (Fn.func 58) [] [.ptr 12 0]), (iB 4, .func (Fn.func 48) [] []), (iB 5, .func (Fn.func 58) [] [.ptr 13 0]), (iB 6, .func (Fn.func 58) [] [.ptr 14 0]), (iB 7, .func (Fn.func 52) [] [])] [0, 1, 2, 3, 4, 5, 6, 7] 8), (4, .cells false [t, .map 5, q]), (5, M)], 9, none, []⟩, 15⟩ (.map 5) (iW k) (iW v) (uD) ⟨⟨[(14, .cells false [.func (Fn.func 51) [] []]), (13, .cells false [.func (Fn.func 50) [] []]), (12, .cells false [.func (Fn.func 47) [] []]), (11, .cells false [.func (Fn.func 45) [] []]), (10, .cells false [.func (Fn.func 43) [] []]), (9, .cells false [.func (Fn.func 41) [] []]), (8, .map [(iB 0, .func (Fn.func 58) [] [.ptr 9 0]), (iB 1, .func (Fn.func 58) [] [.ptr 10 0]), (iB 2, .func (Fn.func 58) [] [.ptr 11 0]), (iB 3, .func (Fn.func 58) [] [.ptr 12 0]), (iB 4, .func (Fn.func 48) [] []), (iB 5, .func (Fn.func 58) [] [.ptr 13 0]), (iB 6, .func (Fn.func 58) [] [.ptr 14 0]), (iB 7, .func (Fn.func 52) [] [])] [0, 1, 2, 3, 4, 5, 6, 7] 8), (4, .cells false [t, .map 5, q]), (5, M2)], 9, none, [5]⟩, 15⟩]) := by kernel_rfl
theorem d5n (_ _ : AObj) (_ _ : Nat) (_ _ : List AV) (t q : AV) (k v _ : Int) : runX Try.prog none_ 80 9 (.call 9 [.ptr 4 0, .int .u8 5, iW k, iW v] ⟨⟨[(4, .cells false [t, .nilMap, q])], 1, none, []⟩, 8⟩) [] = some ({ e := .ret, ts := [.tuple [iB 1, iW (Int.ofNat 0)]], s := ⟨⟨[(15, .map [(iW k, iW v)] [0] 1), (14, .cells false [.func (Fn.func 51) [] []]), (13, .cells false [.func (Fn.func 50) [] []]), (12, .cells false [.func (Fn.func 47) [] []]), (11, .cells false [.func (Fn.func 45) [] []]), (10, .cells false [.func (Fn.func 43) [] []]), (9, .cells false [.func (Fn.func 41) [] []]), (8, .map [(iB 0, .func (Fn.func 58) [] [.ptr 9 0]), (iB 1, .func (Fn.func 58) [] [.ptr 10 0]), (iB 2, .func (Fn.func 58) [] [.ptr 11 0]), (iB 3, .func (Fn.func 58) [] [.ptr 12 0]), (iB 4, .func (Fn.func 48) [] []), (iB 5, .func (Fn.func 58) [] [.ptr 13 0]), (iB 6, .func (Fn.func 58) [] [.ptr 14 0]), (iB 7, .func (Fn.func 52) [] [])] [0, 1, 2, 3, 4, 5, 6, 7] 8), (4, .cells false [t, .map 15, q])], 9, some 4, [4]⟩, 16⟩ }, [], []) := by kernel_rfl
theorem d6y (M M2 : AObj) (_ _ : Nat) (_ _ : List AV) (t q : AV) (k v x : Int) : runX Try.prog none_ 80 9 (.call 9 [.ptr 4 0, .int .u8 6, iW k, iW v] ⟨⟨[(4, .cells false [t, .map 5, q]), (5, M)], 2, none, []⟩, 8⟩) [.val 44 1 2 (.tuple [iW x, .bool true]), .eff 44 2 2 uD (fun s => s.set 5 M2)] = some ({ e := .ret, ts := [.tuple [iB 1, iW (Int.ofNat 0)]], s := ⟨⟨[(4, .cells false [t, .map 5, q]), (5, M2)], 2, some 8, [5]⟩, 15⟩ }, [], [Qst.lk 34 ⟨⟨[(14, .cells false [.func (Fn.func 51) [] []]), (13, .cells false [.func (Fn.func 50) [] []]), (12, .cells false [.func (Fn.func 47) [] []]), (11, .cells false [.func (Fn.func 45) [] []]), (10, .cells false [.func (Fn.func 43) [] []]), (9, .cells false [.func (Fn.func 41) [] []]), (8, .map [(iB 0, .func (Fn.func 58) [] [.ptr 9 0]), (iB 1, .func (Fn.func 58) [] [.ptr 10 0]), (iB 2, .func (Fn.func 58) [] [.ptr 11 0]), (iB 3, .func (Fn.func 58) [] [.ptr 12 0]), (iB 4, .func (Fn.func 48) [] []), (iB 5, .func (Fn.func 58) [] [.ptr 13 0]), (iB 6, .func (Fn.func 58) [] [.ptr 14 0]), (iB 7, .func (Fn.func 52) [] [])] [0, 1, 2, 3, 4, 5, 6, 7] 8), (4, .cells false [t, .map 5, q]), (5, M)], 9, none, []⟩, 15⟩ (.map 5) (iW k) true (.tuple [iW x, .bool true]), Qst.del ⟨⟨[(14, .cells false [.func (Fn.func 51) [] []]), (13, .cells false [.func (Fn.func 50) [] []]), (12, .cells false [.func (Fn.func 47) [] []]), (11, .cells false [.func (Fn.func 45) [] []]), (10, .cells false [.func (Fn.func 43) [] []]), (9, .cells false [.func (Fn.func 41) [] []]), (8, .map [(iB 0, .func (Fn.func 58) [] [.ptr 9 0]), (iB 1, .func (Fn.func 58) [] [.ptr 10 0]), (iB 2, .func (Fn.func 58) [] [.ptr 11 0]), (iB 3, .func (Fn.func 58) [] [.ptr 12 0]), (iB 4, .func (Fn.func 48) [] []), (iB 5, .func (Fn.func 58) [] [.ptr 13 0]), (iB 6, .func (Fn.func 58) [] [.ptr 14 0]), (iB 7, .func (Fn.func 52) [] [])] [0, 1, 2, 3, 4, 5, 6, 7] 8), (4, .cells false [t, .map 5, q]), (5, M)], 9, none, []⟩, 15⟩ 34 (.map 5) (iW k) (uD) ⟨⟨[(14, .cells false [.func (Fn.func 51) [] []]), (13, .cells false [.func (Fn.func 50) [] []]), (12, .cells false [.func (Fn.func 47) [] []]), (11, .cells false [.func (Fn.func 45) [] []]), (10, .cells false [.func (Fn.func 43) [] []]), (9, .cells false [.func (Fn.func 41) [] []]), (8, .map [(iB 0, .func (Fn.func 58) [] [.ptr 9 0]), (iB 1, .func (Fn.func 58) [] [.ptr 10 0]), (iB 2, .func (Fn.func 58) [] [.ptr 11 0]), (iB 3, .func (Fn.func 58) [] [.ptr 12 0]), (iB 4, .func (Fn.func 48) [] []), (iB 5, .func (Fn.func 58) [] [.ptr 13 0]), (iB 6, .func (Fn.func 58) [] [.ptr 14 0]), (iB 7, .func (Fn.func 52) [] [])] [0, 1, 2, 3, 4, 5, 6, 7] 8), (4, .cells false [t, .map 5, q]), (5, M2)], 9, none, [5]⟩, 15⟩]) := by kernel_rfl
theorem d6a (M _ : AObj) (_ _ : Nat) (_ _ : List AV) (t q : AV) (k v x : Int) : runX Try.prog none_ 80 9 (.call 9 [.ptr 4 0, .int .u8 6, iW k, iW v] ⟨⟨[(4, .cells false [t, .map 5, q]), (5, M)], 2, none, []⟩, 8⟩) [.val 44 1 2 (.tuple [iW x, .bool false]), .eff 44 2 2 uD (fun s => s)] = some ({ e := .ret, ts := [.tuple [iB 2, iW (Int.ofNat 0)]], s := ⟨⟨[(4, .cells false [t, .map 5, q]), (5, M)], 2, some 8, []⟩, 15⟩ }, [], [Qst.lk 34 ⟨⟨[(14, .cells false [.func (Fn.func 51) [] []]), (13, .cells false [.func (Fn.func 50) [] []]), (12, .cells false [.func (Fn.func 47) [] []]), (11, .cells false [.func (Fn.func 45) [] []]), (10, .cells false [.func (Fn.func 43) [] []]), (9, .cells false [.func (Fn.func 41) [] []]), (8, .map [(iB 0, .func (Fn.func 58) [] [.ptr 9 0]), (iB 1, .func (Fn.func 58) [] [.ptr 10 0]), (iB 2, .func (Fn.func 58) [] [.ptr 11 0]), (iB 3, .func (Fn.func 58) [] [.ptr 12 0]), (iB 4, .func (Fn.func 48) [] []), (iB 5, .func (Fn.func 58) [] [.ptr 13 0]), (iB 6, .func (Fn.func 58) [] [.ptr 14 0]), (iB 7, .func (Fn.func 52) [] [])] [0, 1, 2, 3, 4, 5, 6, 7] 8), (4, .cells false [t, .map 5, q]), (5, M)], 9, none, []⟩, 15⟩ (.map 5) (iW k) true (.tuple [iW x, .bool false]), Qst.del ⟨⟨[(14, .cells false [.func (Fn.func 51) [] []]), (13, .cells false [.func (Fn.func 50) [] []]), (12, .cells false [.func (Fn.func 47) [] []]), (11, .cells false [.func (Fn.func 45) [] []]), (10, .cells false [.func (Fn.func 43) [] []]), (9, .cells false [.func (Fn.func 41) [] []]), (8, .map [(iB 0, .func (Fn.func 58) [] [.ptr 9 0]), (iB 1, .func (Fn.func 58) [] [.ptr 10 0]), (iB 2, .func (Fn.func 58) [] [.ptr 11 0]), (iB 3, .func (Fn.func 58) [] [.ptr 12 0]), (iB 4, .func (Fn.func 48) [] []), (iB 5, .func (Fn.func 58) [] [.ptr 13 0]), (iB 6, .func (Fn.func 58) [] [.ptr 14 0]), (iB 7, .func (Fn.func 52) [] [])] [0, 1, 2, 3, 4, 5, 6, 7] 8), (4, .cells false [t, .map 5, q]), (5, M)], 9, none, []⟩, 15⟩ 34 (.map 5) (iW k) (uD) ⟨⟨[(14, .cells false [.func (Fn.func 51) [] []]), (13, .cells false [.func (Fn.func 50) [] []]), (12, .cells false [.func (Fn.func 47) [] []]), (11, .cells false [.func (Fn.func 45) [] []]), (10, .cells false [.func (Fn.func 43) [] []]), (9, .cells false [.func (Fn.func 41) [] []]), (8, .map [(iB 0, .func (Fn.func 58) [] [.ptr 9 0]), (iB 1, .func (Fn.func 58) [] [.ptr 10 0]), (iB 2, .func (Fn.func 58) [] [.ptr 11 0]), (iB 3, .func (Fn.func 58) [] [.ptr 12 0]), (iB 4, .func (Fn.func 48) [] []), (iB 5, .func (Fn.func 58) [] [.ptr 13 0]), (iB 6, .func (Fn.func 58) [] [.ptr 14 0]), (iB 7, .func (Fn.func 52) [] [])] [0, 1, 2, 3, 4, 5, 6, 7] 8), (4, .cells false [t, .map 5, q]), (5, M)], 9, none, []⟩, 15⟩]) := by kernel_rfl
theorem d6n (_ _ : AObj) (_ _ : Nat) (_ _ : List AV) (t q : AV) (k v _ : Int) : runX Try.prog none_ 80 9 (.call 9 [.ptr 4 0, .int .u8 6, iW k, iW v] ⟨⟨[(4, .cells false [t, .nilMap, q])], 1, none, []⟩, 8⟩) [] = some ({ e := .ret, ts := [.tuple [iB 2, iW (Int.ofNat 0)]], s := ⟨⟨[(4, .cells false [t, .nilMap, q])], 1, some 8, []⟩, 15⟩ }, [], []) := by kernel_rfl
theorem d7y (M _ : AObj) (_ _ : Nat) (_ _ : List AV) (t q : AV) (k v x : Int) : runX Try.prog none_ 80 9 (.call 9 [.ptr 4 0, .int .u8 7, iW k, iW v] ⟨⟨[(4, .cells false [t, .map 5, q]), (5, M)], 2, none, []⟩, 8⟩) [.val 52 1 5 (.tuple [iW x, .bool true])] = some ({ e := .ret, ts := [.tuple [iB 1, iW x]], s := ⟨⟨[(4, .cells false [t, .map 5, q]), (5, M)], 2, some 8, []⟩, 15⟩ }, [], [Qst.lk 34 ⟨⟨[(14, .cells false [.func (Fn.func 51) [] []]), (13, .cells false [.func (Fn.func 50) [] []]), (12, .cells false [.func (Fn.func 47) [] []]), (11, .cells false [.func (Fn.func 45) [] []]), (10, .cells false [.func (Fn.func 43) [] []]), (9, .cells false [.func (Fn.func 41) [] []]), (8, .map [(iB 0, .func (Fn.func 58) [] [.ptr 9 0]), (iB 1, .func (Fn.func 58) [] [.ptr 10 0]), (iB 2, .func (Fn.func 58) [] [.ptr 11 0]), (iB 3, .func (Fn.func 58) [] [.ptr 12 0]), (iB 4, .func (Fn.func 48) [] []), (iB 5, .func (Fn.func 58) [] [.ptr 13 0]), (iB 6, .func (Fn.func 58) [] [.ptr 14 0]), (iB 7, .func (Fn.func 52) [] [])] [0, 1, 2, 3, 4, 5, 6, 7] 8), (4, .cells false [t, .map 5, q]), (5, M)], 9, none, []⟩, 15⟩ (.map 5) (iW k) true (.tuple [iW x, .bool true])]) := by kernel_rfl
theorem d7a (M _ : AObj) (_ _ : Nat) (_ _ : List AV) (t q : AV) (k v x : Int) : runX Try.prog none_ 80 9 (.call 9 [.ptr 4 0, .int .u8 7, iW k, iW v] ⟨⟨[(4, .cells false [t, .map 5, q]), (5, M)], 2, none, []⟩, 8⟩) [.val 52 1 5 (.tuple [iW x, .bool false])] = some ({ e := .ret, ts := [.tuple [iB 2, iW x]], s := ⟨⟨[(4, .cells false [t, .map 5, q]), (5, M)], 2, some 8, []⟩, 15⟩ }, [], [Qst.lk 34 ⟨⟨[(14, .cells false [.func (Fn.func 51) [] []]), (13, .cells false [.func (Fn.func 50) [] []]), (12, .cells false [.func (Fn.func 47) [] []]), (11, .cells false [.func (Fn.func 45) [] []]), (10, .cells false [.func (Fn.func 43) [] []]), (9, .cells false [.func (Fn.func 41) [] []]), (8, .map [(iB 0, .func (Fn.func 58) [] [.ptr 9 0]), (iB 1, .func (Fn.func 58) [] [.ptr 10 0]), (iB 2, .func (Fn.func 58) [] [.ptr 11 0]), (iB 3, .func (Fn.func 58) [] [.ptr 12 0]), (iB 4, .func (Fn.func 48) [] []), (iB 5, .func (Fn.func 58) [] [.ptr 13 0]), (iB 6, .func (Fn.func 58) [] [.ptr 14 0]), (iB 7, .func (Fn.func 52) [] [])] [0, 1, 2, 3, 4, 5, 6, 7] 8), (4, .cells false [t, .map 5, q]), (5, M)], 9, none, []⟩, 15⟩ (.map 5) (iW k) true (.tuple [iW x, .bool false])]) := by kernel_rfl
theorem d7n (_ _ : AObj) (_ _ : Nat) (_ _ : List AV) (t q : AV) (k v _ : Int) : runX Try.prog none_ 80 9 (.call 9 [.ptr 4 0, .int .u8 7, iW k, iW v] ⟨⟨[(4, .cells false [t, .nilMap, q])], 1, none, []⟩, 8⟩) [] = some ({ e := .ret, ts := [.tuple [iB 2, iW (Int.ofNat 0)]], s := ⟨⟨[(4, .cells false [t, .nilMap, q])], 1, some 8, []⟩, 15⟩ }, [], []) := by kernel_rfl
theorem d3n (_ _ : AObj) (_ _ : Nat) (_ _ : List AV) (t q : AV) (k v _ : Int) : runX Try.prog none_ 80 9 (.call 9 [.ptr 4 0, .int .u8 3, iW k, iW v] ⟨⟨[(4, .cells false [t, q, .nilSlice])], 1, none, []⟩, 8⟩) [] = some ({ e := .ret, ts := [.tuple [iB 1, iW (Int.ofNat 0)]], s := ⟨⟨[(16, .cells false [iW v]), (15, .cells false [iW v]), (14, .cells false [.func (Fn.func 51) [] []]), (13, .cells false [.func (Fn.func 50) [] []]), (12, .cells false [.func (Fn.func 47) [] []]), (11, .cells false [.func (Fn.func 45) [] []]), (10, .cells false [.func (Fn.func 43) [] []]), (9, .cells false [.func (Fn.func 41) [] []]), (8, .map [(iB 0, .func (Fn.func 58) [] [.ptr 9 0]), (iB 1, .func (Fn.func 58) [] [.ptr 10 0]), (iB 2, .func (Fn.func 58) [] [.ptr 11 0]), (iB 3, .func (Fn.func 58) [] [.ptr 12 0]), (iB 4, .func (Fn.func 48) [] []), (iB 5, .func (Fn.func 58) [] [.ptr 13 0]), (iB 6, .func (Fn.func 58) [] [.ptr 14 0]), (iB 7, .func (Fn.func 52) [] [])] [0, 1, 2, 3, 4, 5, 6, 7] 8), (4, .cells false [t, q, .osl 16 0 1 1])], 10, some 4, [4]⟩, 17⟩ }, [], []) := by kernel_rfl
theorem d3s (_ _ : AObj) (o n : Nat) (R R2 : List AV) (t q : AV) (k v _ : Int) : runX Try.prog none_ 80 9 (.call 9 [.ptr 4 0, .int .u8 3, iW k, iW v] ⟨⟨[(4, .cells false [t, q, .osl 5 o n 1]), (5, .cells false R)], 2, none, []⟩, 8⟩) [.eff 47 1 7 (.osl 16 0 (n + 1) 1) (fun s => (s.set 5 .dead).push (.cells false R2))] = some ({ e := .ret, ts := [.tuple [iB 1, iW (Int.ofNat 0)]], s := ⟨⟨[(16, .cells false R2), (15, .cells false [iW v]), (14, .cells false [.func (Fn.func 51) [] []]), (13, .cells false [.func (Fn.func 50) [] []]), (12, .cells false [.func (Fn.func 47) [] []]), (11, .cells false [.func (Fn.func 45) [] []]), (10, .cells false [.func (Fn.func 43) [] []]), (9, .cells false [.func (Fn.func 41) [] []]), (8, .map [(iB 0, .func (Fn.func 58) [] [.ptr 9 0]), (iB 1, .func (Fn.func 58) [] [.ptr 10 0]), (iB 2, .func (Fn.func 58) [] [.ptr 11 0]), (iB 3, .func (Fn.func 58) [] [.ptr 12 0]), (iB 4, .func (Fn.func 48) [] []), (iB 5, .func (Fn.func 58) [] [.ptr 13 0]), (iB 6, .func (Fn.func 58) [] [.ptr 14 0]), (iB 7, .func (Fn.func 52) [] [])] [0, 1, 2, 3, 4, 5, 6, 7] 8), (4, .cells false [t, q, .osl 16 0 (n + 1) 1]), (5, .dead)], 11, some 4, [4, 5]⟩, 17⟩ }, [], [Qst.app ⟨⟨[(15, .cells false [iW v]), (14, .cells false [.func (Fn.func 51) [] []]), (13, .cells false [.func (Fn.func 50) [] []]), (12, .cells false [.func (Fn.func 47) [] []]), (11, .cells false [.func (Fn.func 45) [] []]), (10, .cells false [.func (Fn.func 43) [] []]), (9, .cells false [.func (Fn.func 41) [] []]), (8, .map [(iB 0, .func (Fn.func 58) [] [.ptr 9 0]), (iB 1, .func (Fn.func 58) [] [.ptr 10 0]), (iB 2, .func (Fn.func 58) [] [.ptr 11 0]), (iB 3, .func (Fn.func 58) [] [.ptr 12 0]), (iB 4, .func (Fn.func 48) [] []), (iB 5, .func (Fn.func 58) [] [.ptr 13 0]), (iB 6, .func (Fn.func 58) [] [.ptr 14 0]), (iB 7, .func (Fn.func 52) [] [])] [0, 1, 2, 3, 4, 5, 6, 7] 8), (4, .cells false [t, q, .osl 5 o n 1]), (5, .cells false R)], 10, none, []⟩, 16⟩ 30 30 (.osl 5 o n 1) (.slice 15 0 1 1) (.osl 16 0 (n + 1) 1) ⟨⟨[(16, .cells false R2), (15, .cells false [iW v]), (14, .cells false [.func (Fn.func 51) [] []]), (13, .cells false [.func (Fn.func 50) [] []]), (12, .cells false [.func (Fn.func 47) [] []]), (11, .cells false [.func (Fn.func 45) [] []]), (10, .cells false [.func (Fn.func 43) [] []]), (9, .cells false [.func (Fn.func 41) [] []]), (8, .map [(iB 0, .func (Fn.func 58) [] [.ptr 9 0]), (iB 1, .func (Fn.func 58) [] [.ptr 10 0]), (iB 2, .func (Fn.func 58) [] [.ptr 11 0]), (iB 3, .func (Fn.func 58) [] [.ptr 12 0]), (iB 4, .func (Fn.func 48) [] []), (iB 5, .func (Fn.func 58) [] [.ptr 13 0]), (iB 6, .func (Fn.func 58) [] [.ptr 14 0]), (iB 7, .func (Fn.func 52) [] [])] [0, 1, 2, 3, 4, 5, 6, 7] 8), (4, .cells false [t, q, .osl 5 o n 1]), (5, .dead)], 11, none, [5]⟩, 17⟩]) := by kernel_rfl
theorem d4n (_ _ : AObj) (_ _ : Nat) (_ _ : List AV) (t q : AV) (k v _ : Int) : runX Try.prog none_ 80 9 (.call 9 [.ptr 4 0, .int .u8 4, iW k, iW v] ⟨⟨[(4, .cells false [t, q, .nilSlice])], 1, none, []⟩, 8⟩) [] = some ({ e := .ret, ts := [.tuple [iB 2, iW (Int.ofNat 0)]], s := ⟨⟨[(4, .cells false [t, q, .nilSlice])], 1, some 8, []⟩, 15⟩ }, [], []) := by kernel_rfl
theorem d4e (_ _ : AObj) (o _ : Nat) (R _ : List AV) (t q : AV) (k v _ : Int) : runX Try.prog none_ 80 9 (.call 9 [.ptr 4 0, .int .u8 4, iW k, iW v] ⟨⟨[(4, .cells false [t, q, .osl 5 o 0 1]), (5, .cells false R)], 2, none, []⟩, 8⟩) [] = some ({ e := .ret, ts := [.tuple [iB 2, iW (Int.ofNat 0)]], s := ⟨⟨[(4, .cells false [t, q, .osl 5 o 0 1]), (5, .cells false R)], 2, some 8, []⟩, 15⟩ }, [], []) := by kernel_rfl
theorem d4s (_ _ : AObj) (o n : Nat) (R _ : List AV) (t q : AV) (k v x : Int) : runX Try.prog none_ 80 9 (.call 9 [.ptr 4 0, .int .u8 4, iW k, iW v] ⟨⟨[(4, .cells false [t, q, .osl 5 o n 1]), (5, .cells false R)], 2, none, []⟩, 8⟩) [.val 49 1 5 (.bool false), .val 49 3 4 (.ptr 5 o), .val 49 3 5 (iW x), .val 49 4 5 (.osl 5 (o + 1) (n - 1) 1)] = some ({ e := .ret, ts := [.tuple [iB 1, iW x]], s := ⟨⟨[(14, .cells false [.func (Fn.func 51) [] []]), (13, .cells false [.func (Fn.func 50) [] []]), (12, .cells false [.func (Fn.func 47) [] []]), (11, .cells false [.func (Fn.func 45) [] []]), (10, .cells false [.func (Fn.func 43) [] []]), (9, .cells false [.func (Fn.func 41) [] []]), (8, .map [(iB 0, .func (Fn.func 58) [] [.ptr 9 0]), (iB 1, .func (Fn.func 58) [] [.ptr 10 0]), (iB 2, .func (Fn.func 58) [] [.ptr 11 0]), (iB 3, .func (Fn.func 58) [] [.ptr 12 0]), (iB 4, .func (Fn.func 48) [] []), (iB 5, .func (Fn.func 58) [] [.ptr 13 0]), (iB 6, .func (Fn.func 58) [] [.ptr 14 0]), (iB 7, .func (Fn.func 52) [] [])] [0, 1, 2, 3, 4, 5, 6, 7] 8), (4, .cells false [t, q, .osl 5 (o + 1) (n - 1) 1]), (5, .cells false R)], 9, some 4, [4]⟩, 15⟩ }, [], [Qst.val (some (.bool (Int.ofNat n == Int.ofNat 0))) (.bool false), Qst.idx 30 (.osl 5 o n 1) (iN 0) (.ptr 5 o), Qst.ld 22 ⟨⟨[(14, .cells false [.func (Fn.func 51) [] []]), (13, .cells false [.func (Fn.func 50) [] []]), (12, .cells false [.func (Fn.func 47) [] []]), (11, .cells false [.func (Fn.func 45) [] []]), (10, .cells false [.func (Fn.func 43) [] []]), (9, .cells false [.func (Fn.func 41) [] []]), (8, .map [(iB 0, .func (Fn.func 58) [] [.ptr 9 0]), (iB 1, .func (Fn.func 58) [] [.ptr 10 0]), (iB 2, .func (Fn.func 58) [] [.ptr 11 0]), (iB 3, .func (Fn.func 58) [] [.ptr 12 0]), (iB 4, .func (Fn.func 48) [] []), (iB 5, .func (Fn.func 58) [] [.ptr 13 0]), (iB 6, .func (Fn.func 58) [] [.ptr 14 0]), (iB 7, .func (Fn.func 52) [] [])] [0, 1, 2, 3, 4, 5, 6, 7] 8), (4, .cells false [t, q, .osl 5 o n 1]), (5, .cells false R)], 9, none, []⟩, 15⟩ (.ptr 5 o) (iW x), Qst.sli 30 (.osl 5 o n 1) (some (iN 1)) none none (.osl 5 (o + 1) (n - 1) 1)]) := by kernel_rfl
end Go.Proofs.Ythooafgfpnedhaa.specsDo
namespace Go.Proofs.Ythooafgfpnedhaa.specsDo
open Go Go.Mini
def uc (Q : List Int) : List AV := Q.map (AV.int .u64)
theorem names_uc (p : Nat → Bool) : ∀ Q, namess p (uc Q) = true
  | [] => rfl
  | x :: l => by show (true && namess p (uc l)) = true; rw [names_uc p l]; rfl
theorem rens_uc (π : Nat → Nat) : ∀ Q, rens π (uc Q) = uc Q
  | [] => rfl
  | x :: l => by show _ :: rens π (uc l) = _; rw [rens_uc π l]; rfl
theorem names_mapE (p : Nat → Bool) : ∀ es, namesE p (mapE .u64 .u64 es) = true
  | [] => rfl
  | x :: l => by show (true && true && namesE p (mapE .u64 .u64 l)) = true; rw [names_mapE p l]; rfl
theorem ren_mapE (π : Nat → Nat) : ∀ es, renE π (mapE .u64 .u64 es) = mapE .u64 .u64 es
  | [] => rfl
  | x :: l => by show _ :: renE π (mapE .u64 .u64 l) = _; rw [ren_mapE π l]; rfl
def Mp (t : AV) : Prop := t = .nilMap ∨ ∃ b, t = .map b
def Ql (q : AV) : Prop := q = .nilSlice ∨ ∃ b o n, q = .osl b o n 1
theorem Mp.small {t : AV} (h : Mp t) (i : Nat) (hi : i < 8) : ∃ (t0 : AV) (c : Nat), t0.names (fun b => Nat.blt b 8) = true ∧ ∀ π : Nat → Nat, π i = c → t0.ren π = t := by
  rcases h with rfl | ⟨b, rfl⟩
  · exact ⟨.nilMap, 0, rfl, fun _ _ => rfl⟩
  · exact ⟨.map i, b, by simpa [AV.names] using hi, fun π h => by simp [AV.ren, h]⟩
theorem Ql.small {t : AV} (h : Ql t) (i : Nat) (hi : i < 8) : ∃ (t0 : AV) (c : Nat), t0.names (fun b => Nat.blt b 8) = true ∧ ∀ π : Nat → Nat, π i = c → t0.ren π = t := by
  rcases h with rfl | ⟨b, o, n, rfl⟩
  · exact ⟨.nilSlice, 0, rfl, fun _ _ => rfl⟩
  · exact ⟨.osl i o n 1, b, by simpa [AV.names] using hi, fun π h => by simp [AV.ren, h]⟩
theorem noG : Try.prog.globals.size = 0 := by kernel_rfl

theorem put2 {op k v : Int} {r : AV} {c c' : List AV} {o o' : AObj} {s1 : AS} {e : AExit} (h : Sound Try.prog (.call 9 [.ptr 4 0, .int .u8 op, .int .u64 k, .int .u64 v] ⟨⟨[(4, .cells false c), (5, o)], 2, none, []⟩, 8⟩) ⟨e, [r], s1⟩) (nl : List (Nat × AObj))
    (h4 : s1.get 4 = some (.cells false c')) (h5 : s1.get 5 = some o') (nc : namess (fun b => Nat.blt b 8) c = true) (no : o.names (fun b => Nat.blt b 8) = true) (ro : o.rw = true) (nc' : namess (pN 8 (nl.map (·.1))) c' = true) (no' : o'.names (pN 8 (nl.map (·.1))) = true) (ro' : o'.rw = true ∨ o' = .dead)
    (hnl : eachX (fun b o => 8 ≤ b ∧ s1.get b = some o ∧ o.rw = true ∧ o.names (pN 8 (nl.map (·.1))) = true) nl) (hnd : (nl.map (·.1)).Nodup) (hr : r.names (fun _ => false) = true) (π : Nat → Nat) (hπ : π 4 ≠ π 5) {s : AS}
    (hb : s.get (π 4) = some (.cells false (rens π c))) (hm : s.get (π 5) = some (o.ren π)) :
    Sound Try.prog (.call 9 [.ptr (π 4) 0, .int .u8 op, .int .u64 k, .int .u64 v] s) ⟨.ret, [r], pushL ((s.set (π 4) (.cells false (rens (pR 8 (nl.map (·.1)) π s.nx) c'))).set (π 5) (o'.ren (pR 8 (nl.map (·.1)) π s.nx))) (nl.map fun x => x.2.ren (pR 8 (nl.map (·.1)) π s.nx))⟩ := by
  have e4 : objAt s1 4 = .cells false c' := by simp [objAt, h4]
  have e5 : objAt s1 5 = o' := by simp [objAt, h5]
  have := Sound.put (bs0 := [(4, .cells false c), (5, o)]) h noG π (nl.map (·.1)) s
    ⟨⟨show 4 < 8 by decide, rfl, nc, rfl, hb, by rw [e4]; exact .inl rfl, by rw [e4]; exact nc'⟩, ⟨show 5 < 8 by decide, ro, no, rfl, hm, by rw [e5]; exact ro', by rw [e5]; exact no'⟩, trivial⟩
    (fun b hb c hc he => by
      simp only [List.map_cons, List.map_nil, List.mem_cons, List.not_mem_nil, or_false] at hb hc
      rcases hb with rfl | rfl <;> rcases hc with rfl | rfl
      · rfl
      · exact absurd he hπ
      · exact absurd he.symm hπ
      · rfl) (show [4, 5].Nodup by decide) hnd
    (fun b hb => by
      obtain ⟨x, hx, rfl⟩ := List.mem_map.1 hb
      obtain ⟨k1, k2, k3, k4⟩ := eachX_mem hnl x hx
      have e : objAt s1 x.1 = x.2 := by simp [objAt, k2]
      rw [e]
      exact ⟨k1, k3, k4⟩) rfl (names_sub (fun _ h => by cases h) hr)
  have hr' : r.ren (pR 8 (nl.map (·.1)) π s.nx) = r := by rw [ren_congr (p := fun _ => false) (π' := fun b => b) (fun _ h => by cases h) hr, ren_id]
  rw [hr'] at this
  have hobj : ((nl.map (·.1)).map fun b => (objAt s1 b).ren (pR 8 (nl.map (·.1)) π s.nx)) = nl.map fun x => x.2.ren (pR 8 (nl.map (·.1)) π s.nx) := by
    rw [List.map_map]
    refine List.map_congr_left fun x hx => ?_
    obtain ⟨k1, k2, k3, k4⟩ := eachX_mem hnl x hx
    show (objAt s1 x.1).ren _ = _
    rw [show objAt s1 x.1 = x.2 from by simp [objAt, k2]]
  rw [hobj] at this
  simp only [List.map_cons, List.map_nil, setL, e4, e5] at this
  exact this
theorem put1 {op k v : Int} {r : AV} {c c' : List AV} {s1 : AS} {e : AExit} (h : Sound Try.prog (.call 9 [.ptr 4 0, .int .u8 op, .int .u64 k, .int .u64 v] ⟨⟨[(4, .cells false c)], 1, none, []⟩, 8⟩) ⟨e, [r], s1⟩) (nl : List (Nat × AObj))
    (h4 : s1.get 4 = some (.cells false c')) (nc : namess (fun b => Nat.blt b 8) c = true) (nc' : namess (pN 8 (nl.map (·.1))) c' = true)
    (hnl : eachX (fun b o => 8 ≤ b ∧ s1.get b = some o ∧ o.rw = true ∧ o.names (pN 8 (nl.map (·.1))) = true) nl) (hnd : (nl.map (·.1)).Nodup) (hr : r.names (fun _ => false) = true) (π : Nat → Nat) {s : AS}
    (hb : s.get (π 4) = some (.cells false (rens π c))) :
    Sound Try.prog (.call 9 [.ptr (π 4) 0, .int .u8 op, .int .u64 k, .int .u64 v] s) ⟨.ret, [r], pushL (s.set (π 4) (.cells false (rens (pR 8 (nl.map (·.1)) π s.nx) c'))) (nl.map fun x => x.2.ren (pR 8 (nl.map (·.1)) π s.nx))⟩ := by
  have e4 : objAt s1 4 = .cells false c' := by simp [objAt, h4]
  have := Sound.put (bs0 := [(4, .cells false c)]) h noG π (nl.map (·.1)) s
    ⟨⟨show 4 < 8 by decide, rfl, nc, rfl, hb, by rw [e4]; exact .inl rfl, by rw [e4]; exact nc'⟩, trivial⟩
    (fun b hb c hc he => by
      simp only [List.map_cons, List.map_nil, List.mem_cons, List.not_mem_nil, or_false] at hb hc
      rw [hb, hc]) (show [4].Nodup by decide) hnd
    (fun b hb => by
      obtain ⟨x, hx, rfl⟩ := List.mem_map.1 hb
      obtain ⟨k1, k2, k3, k4⟩ := eachX_mem hnl x hx
      have e : objAt s1 x.1 = x.2 := by simp [objAt, k2]
      rw [e]
      exact ⟨k1, k3, k4⟩) rfl (names_sub (fun _ h => by cases h) hr)
  have hr' : r.ren (pR 8 (nl.map (·.1)) π s.nx) = r := by rw [ren_congr (p := fun _ => false) (π' := fun b => b) (fun _ h => by cases h) hr, ren_id]
  rw [hr'] at this
  have hobj : ((nl.map (·.1)).map fun b => (objAt s1 b).ren (pR 8 (nl.map (·.1)) π s.nx)) = nl.map fun x => x.2.ren (pR 8 (nl.map (·.1)) π s.nx) := by
    rw [List.map_map]
    refine List.map_congr_left fun x hx => ?_
    obtain ⟨k1, k2, k3, k4⟩ := eachX_mem hnl x hx
    show (objAt s1 x.1).ren _ = _
    rw [show objAt s1 x.1 = x.2 from by simp [objAt, k2]]
  rw [hobj] at this
  simp only [List.map_cons, List.map_nil, setL, e4] at this
  exact this

/-! ### maps of numbers: what is asked -/
def posM : List (Int × Int) → Int → Nat
  | [], _ => 0
  | x :: t, n => if n = x.1 then 0 else posM t n + 1
theorem find_in {kt : TypeId} (hk : Try.prog.underlying kt = some (.int .u64)) {s : AS} {n x : Int} : ∀ (es : List (Int × Int)) (i : Nat), getM es n = some x →
    findA Try.prog s kt (.int .u64 n) (mapE .u64 .u64 es) i = some (some (i + posM es n, .int .u64 n, .int .u64 x)) ∧ eraseAt (mapE .u64 .u64 es) (posM es n) = mapE .u64 .u64 (delM es n)
  | [], _, h => by cases h
  | y :: l, i, h => by
    have he : eqA Try.prog s 8 kt (.int .u64 n) (.int .u64 y.1) = some (n == y.1) := by simp only [eqA, hk, eqInt, if_true]
    by_cases hn : n = y.1
    · have hb : (n == y.1) = true := by simpa using hn
      rw [hb] at he
      simp only [getM, if_pos hn, Option.some.injEq] at h
      subst h
      constructor
      · rw [show mapE .u64 .u64 (y :: l) = (.int .u64 y.1, .int .u64 y.2) :: mapE .u64 .u64 l from rfl]
        simp only [findA, he, posM, if_pos hn, Nat.add_zero]
        rw [← hn]
      · simp only [posM, delM, if_pos hn]; rfl
    · have hb : (n == y.1) = false := by simpa using hn
      rw [hb] at he
      simp only [getM, if_neg hn] at h
      obtain ⟨h1, h2⟩ := find_in hk (s := s) l (i + 1) h
      constructor
      · rw [show mapE .u64 .u64 (y :: l) = (.int .u64 y.1, .int .u64 y.2) :: mapE .u64 .u64 l from rfl]
        simp only [findA, he, posM, if_neg hn, h1]
        rw [show i + 1 + posM l n = i + (posM l n + 1) from by omega]
      · simp only [posM, delM, if_neg hn]
        show _ :: eraseAt (mapE .u64 .u64 l) _ = _
        rw [h2]
        rfl
theorem find_out {kt : TypeId} (hk : Try.prog.underlying kt = some (.int .u64)) {s : AS} {n : Int} (es : List (Int × Int)) (i : Nat) (h : getM es n = none) : findA Try.prog s kt (.int .u64 n) (mapE .u64 .u64 es) i = some none := by
  rcases find_mapE (vk := .u64) hk (s := s) (n := n) es i with ⟨_, h2⟩ | ⟨x, p, h1, _⟩
  · exact h2
  · rw [h] at h1; cases h1
theorem t34 : Try.prog.underlying 34 = some (.map 22 22) := by kernel_rfl
theorem t22 : Try.prog.underlying 22 = some (.int .u64) := by kernel_rfl
theorem z22 : zeroA Try.prog 22 = some (.int .u64 0) := by kernel_rfl
section
variable {s : AS} {b ck : Nat} {bn : List Nat} {es : List (Int × Int)} {n : Int}
theorem lk_in {x : Int} (hs : s.get b = some (.map (mapE .u64 .u64 es) bn ck)) (h : getM es n = some x) : lookupA Try.prog s 34 (.map b) (.int .u64 n) true = some (.tuple [.int .u64 x, .bool true]) := by
  rw [lk_mapE (vk := .u64) t34 t22 z22 hs true, h]; rfl
theorem lk_out (hs : s.get b = some (.map (mapE .u64 .u64 es) bn ck)) (h : getM es n = none) : lookupA Try.prog s 34 (.map b) (.int .u64 n) true = some (.tuple [.int .u64 0, .bool false]) := by
  rw [lk_mapE (vk := .u64) t34 t22 z22 hs true, h]; rfl
theorem upd_out (v : Int) (hs : s.get b = some (.map (mapE .u64 .u64 es) bn ck)) (h : getM es n = none) : updateA Try.prog s 34 (.map b) (.int .u64 n) (.int .u64 v) = some (s.set b (.map (mapE .u64 .u64 (putM es n v)) (bn ++ [ck]) (ck + 1))) := by
  simp only [updateA, t34, key_num t22, if_true, mapAt, hs, find_out t22 es 0 h, put_new n v es h, AV.young, noteEsc, Bool.false_eq_true, if_false]
theorem del_in {x : Int} (hs : s.get b = some (.map (mapE .u64 .u64 es) bn ck)) (h : getM es n = some x) : deleteA Try.prog s 34 (.map b) (.int .u64 n) = some (s.set b (.map (mapE .u64 .u64 (delM es n)) (bn.eraseIdx (posM es n)) ck)) := by
  obtain ⟨h1, h2⟩ := find_in (s := s) t22 es 0 h
  simp only [deleteA, t34, key_num t22, if_true, mapAt, hs, h1, Nat.zero_add, h2]
theorem del_out (hs : s.get b = some (.map (mapE .u64 .u64 es) bn ck)) (h : getM es n = none) : deleteA Try.prog s 34 (.map b) (.int .u64 n) = some s := by
  simp only [deleteA, t34, key_num t22, if_true, mapAt, hs, find_out t22 es 0 h]
end
end Go.Proofs.Ythooafgfpnedhaa.specsDo
namespace Go.Proofs.Ythooafgfpnedhaa.specsDo
open Go Go.Mini
def p4 (b b5 b6 b7 x : Nat) : Nat := if x = 4 then b else if x = 5 then b5 else if x = 6 then b6 else b7
theorem get_set {s : AS} {b c : Nat} {o : AObj} : (s.set b o).get c = if c = b then (s.get b).map fun _ => o else s.get c := getB_setB b o c s.h.bs
section
variable {P : Program} {f : FuncId} {args vs : List AV} {e : AExit} {s : AS} {b bm : Nat} {X Y X' Y' : AObj}
theorem rec_same2 (h : Sound P (.call f args s) ⟨e, vs, (s.set b X).set bm Y⟩) (hb : s.get b = some X) (hm : s.get bm = some Y) : Sound P (.call f args s) ⟨e, vs, s⟩ :=
  Sound.recast h (fun c => by rw [get_set_same (by rw [get_set_same hb]; exact hm), get_set_same hb]) (by show _ = (setB (setB s.h.bs b X) bm Y).map (·.1); rw [setB_keys, setB_keys]; rfl) rfl rfl ⟨[], rfl, fun _ _ _ => rfl⟩
theorem rec_half2 (h : Sound P (.call f args s) ⟨e, vs, (s.set b X).set bm Y⟩) (hb : s.get b = some X) : Sound P (.call f args s) ⟨e, vs, s.set bm Y⟩ :=
  Sound.recast h (fun c => by rw [get_set, get_set, get_set_same hb, get_set_same hb]) (by show (setB s.h.bs bm Y).map (·.1) = (setB (setB s.h.bs b X) bm Y).map (·.1); rw [setB_keys, setB_keys, setB_keys]) rfl rfl ⟨[bm], rfl, fun c _ hc => get_set_ne (by simpa using hc)⟩
theorem rec_first2 (h : Sound P (.call f args s) ⟨e, vs, (s.set b X).set bm Y⟩) (hm : s.get bm = some Y) (hne : b ≠ bm) : Sound P (.call f args s) ⟨e, vs, s.set b X⟩ :=
  Sound.recast h (fun c => by rw [get_set_same (s := s.set b X) (by rw [get_set_ne hne.symm]; exact hm)]) (by show (setB s.h.bs b X).map (·.1) = (setB (setB s.h.bs b X) bm Y).map (·.1); rw [setB_keys, setB_keys, setB_keys]) rfl rfl ⟨[b], rfl, fun c _ hc => get_set_ne (by simpa using hc)⟩
theorem rec_same1 (h : Sound P (.call f args s) ⟨e, vs, s.set b X⟩) (hb : s.get b = some X) : Sound P (.call f args s) ⟨e, vs, s⟩ :=
  Sound.recast h (fun c => by rw [get_set_same hb]) (by show _ = (setB s.h.bs b X).map (·.1); rw [setB_keys]; rfl) rfl rfl ⟨[], rfl, fun _ _ _ => rfl⟩
end
theorem pN_8 {a : AV} {l : List Nat} (h : a.names (fun b => Nat.blt b 8) = true) : a.names (pN 8 l) = true := names_sub (fun b hb => by unfold pN; rw [show Nat.blt b 8 = true from hb]; rfl) h
theorem app_off {s : AS} {b b2 c2 o n : Nat} {ro : Bool} {Q : List Int} {v : Int} (hb : s.get b = some (.cells false (uc Q))) (ho : o + n = Q.length) (h2 : s.get b2 = some (.cells ro [.int .u64 v])) (hk : n < 16777216) :
    appendA Try.prog s 30 30 (.osl b o n 1) (.slice b2 0 1 c2) = some (.osl s.nx 0 (n + 1) 1, (s.set b .dead).push (.cells false (uc (Q.drop o ++ [v])))) := by
  obtain ⟨elem, e2, i, z, size, u1, u2, u3, u4, u5, u0, u6, u7⟩ := rowT_inv (P := Try.prog) (t := 30) (t2 := 30) (n := 1) (by kernel_rfl)
  have hs0 : size = 0 := by omega
  subst hs0
  have hf : firstA s 1 1 (.slice b2 0 1 c2) = some [.int .u64 v] := by
    simp only [firstA, readA, h2, List.drop_zero, Nat.one_mul]
    exact takeN_all rfl
  have hd : readA s b o (n * 1) = some (uc (Q.drop o)) := by
    simp only [readA, hb, uc, ← List.map_drop]
    refine takeN_all ?_
    simp
    omega
  have ones : ∀ L : List Int, (uc L).all AV.one = true := fun L => by simp [uc, AV.one]
  have hs : small (n + 1) = true := by
    unfold small
    exact Nat.ble_eq_true_of_le (by omega)
  have hw : rwAt s b = true := by simp only [rwAt, hb]
  have h10 : Nat.beq 1 0 = false := rfl
  have h11 : Nat.beq 1 1 = true := rfl
  have h12 : Nat.beq 1 (0 + 1) = true := rfl
  simp only [appendA, u1, u3, u4, u5, sliceLen, u6, u7, Nat.zero_add, hf, hd, hs, hw, ones, h10, h11, List.all_cons, List.all_nil, AV.one, Bool.and_self, Bool.not_true, Bool.false_eq_true, if_false, if_true]
  simp only [uc, List.map_append, List.map_cons, List.map_nil]
theorem q_len0 {n : Nat} (hn : n ≠ 0) : (Qst.val (some (.bool (Int.ofNat n == Int.ofNat 0))) (.bool false)).ok Try.prog := by
  simp only [Qst.ok]
  congr 2
  simpa using hn
theorem t30 : Try.prog.underlying 30 = some (.slice 22) := by kernel_rfl
theorem s22 : sizeA Try.prog 22 = some 1 := by kernel_rfl
theorem a22 : isAggA Try.prog 22 = some false := by kernel_rfl
theorem q_idx0 {b o n : Nat} (hn : n ≠ 0) : (Qst.idx 30 (.osl b o n 1) (.int .i64 (Int.ofNat 0)) (.ptr b o)).ok Try.prog := by
  simp only [Qst.ok, indexAddrA, t30, s22]
  rw [if_pos ⟨by simp, by simp; omega⟩]
  simp
theorem q_ld {s : AS} {b o : Nat} {Q : List Int} {x : Int} {ro : Bool} (hx : Q[o]? = some x) (hs : s.get b = some (.cells ro (uc Q)) := by rfl) : (Qst.ld 22 s (.ptr b o) (.int .u64 x)).ok Try.prog :=
  ld_cell a22 hs (by simp [uc, hx])
theorem q_sli {b o n : Nat} (hn : n ≠ 0) : (Qst.sli 30 (.osl b o n 1) (some (.int .i64 (Int.ofNat 1))) none none (.osl b (o + 1) (n - 1) 1)).ok Try.prog := by
  have h1 : (1 : Int) ≤ (n : Int) := by omega
  simp only [Qst.ok, sliceA, t30, s22, boundA]
  simp [h1]
theorem and2 {a b : Bool} (h1 : a = true) (h2 : b = true) : (a && b) = true := by rw [h1, h2]; rfl
theorem D0y {s : AS} {b : Nat} {bm : Nat} {ck : Nat} {bn : List Nat} {es : List (Int × Int)} {t : AV} {q : AV} {k : Int} {v : Int} {x : Int} (hb : s.get b = some (.cells false [.map bm, t, q])) (hm : s.get bm = some (.map (mapE .u64 .u64 es) bn ck)) (ht : Mp t) (hq : Ql q) (hx : getM es k = some x) : Sound Try.prog (.call 9 [.ptr b 0, .int .u8 (Int.ofNat 0), .int .u64 k, .int .u64 v] s) ⟨.ret, [.tuple [.int .u8 (Int.ofNat 2), .int .u64 (Int.ofNat 0)]], s⟩ := by
  have hne : b ≠ bm := fun h => by rw [h, hm] at hb; cases hb
  obtain ⟨t0, c6, nt, rt⟩ := ht.small 6 (by decide)
  obtain ⟨q0, c7, nq, rq⟩ := hq.small 7 (by decide)
  have h := put2 (runX_sound mixed none_sound (d0y (.map (mapE .u64 .u64 es) bn ck) .dead 0 0 [] [] t0 q0 k v x) ⟨lk_in rfl hx, trivial⟩) [] rfl rfl (and2 rfl (and2 nt (and2 nq rfl))) (names_mapE _ _) rfl (and2 rfl (and2 (pN_8 nt) (and2 (pN_8 nq) rfl))) (names_mapE _ _) (.inl rfl) trivial List.nodup_nil rfl (p4 b bm c6 c7) hne (s := s) (by show s.get b = some (.cells false [.map bm, t0.ren _, q0.ren _]); rw [rt _ rfl, rq _ rfl]; exact hb) (by show s.get bm = some (.map (renE _ _) bn ck); rw [ren_mapE]; exact hm)
  have e4 : ∀ n l, (AObj.cells false (rens (pR 8 l (p4 b bm c6 c7) n) [.map 5, t0, q0])) = .cells false [.map bm, t, q] := fun n l => by
    show AObj.cells false [.map bm, t0.ren _, q0.ren _] = _
    rw [rt _ rfl, rq _ rfl]
  rw [e4] at h
  simp only [AObj.ren, ren_mapE, List.map_nil, pushL] at h
  exact rec_same2 h hb hm
theorem D0a {s : AS} {b : Nat} {bm : Nat} {ck : Nat} {bn : List Nat} {es : List (Int × Int)} {t : AV} {q : AV} {k : Int} {v : Int} (hb : s.get b = some (.cells false [.map bm, t, q])) (hm : s.get bm = some (.map (mapE .u64 .u64 es) bn ck)) (ht : Mp t) (hq : Ql q) (hx : getM es k = none) : Sound Try.prog (.call 9 [.ptr b 0, .int .u8 (Int.ofNat 0), .int .u64 k, .int .u64 v] s) ⟨.ret, [.tuple [.int .u8 (Int.ofNat 1), .int .u64 (Int.ofNat 0)]], s.set bm (.map (mapE .u64 .u64 (putM es k (Int.ofNat 0))) (bn ++ [ck]) (ck + 1))⟩ := by
  have hne : b ≠ bm := fun h => by rw [h, hm] at hb; cases hb
  obtain ⟨t0, c6, nt, rt⟩ := ht.small 6 (by decide)
  obtain ⟨q0, c7, nq, rq⟩ := hq.small 7 (by decide)
  have h := put2 (runX_sound mixed none_sound (d0a (.map (mapE .u64 .u64 es) bn ck) (.map (mapE .u64 .u64 (putM es k (Int.ofNat 0))) (bn ++ [ck]) (ck + 1)) 0 0 [] [] t0 q0 k v 0) ⟨lk_out rfl hx, ⟨upd_out (Int.ofNat 0) rfl hx, rfl⟩, trivial⟩) [] rfl rfl (and2 rfl (and2 nt (and2 nq rfl))) (names_mapE _ _) rfl (and2 rfl (and2 (pN_8 nt) (and2 (pN_8 nq) rfl))) (names_mapE _ _) (.inl rfl) trivial List.nodup_nil rfl (p4 b bm c6 c7) hne (s := s) (by show s.get b = some (.cells false [.map bm, t0.ren _, q0.ren _]); rw [rt _ rfl, rq _ rfl]; exact hb) (by show s.get bm = some (.map (renE _ _) bn ck); rw [ren_mapE]; exact hm)
  have e4 : ∀ n l, (AObj.cells false (rens (pR 8 l (p4 b bm c6 c7) n) [.map 5, t0, q0])) = .cells false [.map bm, t, q] := fun n l => by
    show AObj.cells false [.map bm, t0.ren _, q0.ren _] = _
    rw [rt _ rfl, rq _ rfl]
  rw [e4] at h
  simp only [AObj.ren, ren_mapE, List.map_nil, pushL] at h
  exact rec_half2 h hb
theorem D0n {s : AS} {b : Nat} {t : AV} {q : AV} {k : Int} {v : Int} (hb : s.get b = some (.cells false [.nilMap, t, q])) (ht : Mp t) (hq : Ql q) : Sound Try.prog (.call 9 [.ptr b 0, .int .u8 (Int.ofNat 0), .int .u64 k, .int .u64 v] s) ⟨.ret, [.tuple [.int .u8 (Int.ofNat 1), .int .u64 (Int.ofNat 0)]], (s.set b (.cells false [.map s.nx, t, q])).push (.map [(.int .u64 k, .int .u64 (Int.ofNat 0))] [0] 1)⟩ := by
  obtain ⟨t0, c6, nt, rt⟩ := ht.small 6 (by decide)
  obtain ⟨q0, c7, nq, rq⟩ := hq.small 7 (by decide)
  have h := put1 (runX_sound mixed none_sound (d0n .dead .dead 0 0 [] [] t0 q0 k v 0) trivial) [(15, .map [(.int .u64 k, .int .u64 (Int.ofNat 0))] [0] 1)] rfl (and2 rfl (and2 nt (and2 nq rfl))) (and2 rfl (and2 (pN_8 nt) (and2 (pN_8 nq) rfl))) ⟨⟨show 8 ≤ 15 by decide, rfl, rfl, rfl⟩, trivial⟩ (show [15].Nodup by decide) rfl (p4 b 0 c6 c7) (s := s) (by show s.get b = some (.cells false [.nilMap, t0.ren _, q0.ren _]); rw [rt _ rfl, rq _ rfl]; exact hb)
  have e4 : (AObj.cells false (rens (pR 8 [15] (p4 b 0 c6 c7) s.nx) [.map 15, t0, q0])) = .cells false [.map s.nx, t, q] := by
    show AObj.cells false [.map (s.nx + 0), t0.ren _, q0.ren _] = _
    rw [rt _ rfl, rq _ rfl, Nat.add_zero]
  simp only [List.map_cons, List.map_nil] at h
  rw [e4] at h
  exact h
theorem D1y {s : AS} {b : Nat} {bm : Nat} {ck : Nat} {bn : List Nat} {es : List (Int × Int)} {t : AV} {q : AV} {k : Int} {v : Int} {x : Int} (hb : s.get b = some (.cells false [.map bm, t, q])) (hm : s.get bm = some (.map (mapE .u64 .u64 es) bn ck)) (ht : Mp t) (hq : Ql q) (hx : getM es k = some x) : Sound Try.prog (.call 9 [.ptr b 0, .int .u8 (Int.ofNat 1), .int .u64 k, .int .u64 v] s) ⟨.ret, [.tuple [.int .u8 (Int.ofNat 1), .int .u64 (Int.ofNat 0)]], s.set bm (.map (mapE .u64 .u64 (delM es k)) (bn.eraseIdx (posM es k)) ck)⟩ := by
  have hne : b ≠ bm := fun h => by rw [h, hm] at hb; cases hb
  obtain ⟨t0, c6, nt, rt⟩ := ht.small 6 (by decide)
  obtain ⟨q0, c7, nq, rq⟩ := hq.small 7 (by decide)
  have h := put2 (runX_sound mixed none_sound (d1y (.map (mapE .u64 .u64 es) bn ck) (.map (mapE .u64 .u64 (delM es k)) (bn.eraseIdx (posM es k)) ck) 0 0 [] [] t0 q0 k v x) ⟨lk_in rfl hx, ⟨del_in rfl hx, rfl⟩, trivial⟩) [] rfl rfl (and2 rfl (and2 nt (and2 nq rfl))) (names_mapE _ _) rfl (and2 rfl (and2 (pN_8 nt) (and2 (pN_8 nq) rfl))) (names_mapE _ _) (.inl rfl) trivial List.nodup_nil rfl (p4 b bm c6 c7) hne (s := s) (by show s.get b = some (.cells false [.map bm, t0.ren _, q0.ren _]); rw [rt _ rfl, rq _ rfl]; exact hb) (by show s.get bm = some (.map (renE _ _) bn ck); rw [ren_mapE]; exact hm)
  have e4 : ∀ n l, (AObj.cells false (rens (pR 8 l (p4 b bm c6 c7) n) [.map 5, t0, q0])) = .cells false [.map bm, t, q] := fun n l => by
    show AObj.cells false [.map bm, t0.ren _, q0.ren _] = _
    rw [rt _ rfl, rq _ rfl]
  rw [e4] at h
  simp only [AObj.ren, ren_mapE, List.map_nil, pushL] at h
  exact rec_half2 h hb
theorem D1a {s : AS} {b : Nat} {bm : Nat} {ck : Nat} {bn : List Nat} {es : List (Int × Int)} {t : AV} {q : AV} {k : Int} {v : Int} (hb : s.get b = some (.cells false [.map bm, t, q])) (hm : s.get bm = some (.map (mapE .u64 .u64 es) bn ck)) (ht : Mp t) (hq : Ql q) (hx : getM es k = none) : Sound Try.prog (.call 9 [.ptr b 0, .int .u8 (Int.ofNat 1), .int .u64 k, .int .u64 v] s) ⟨.ret, [.tuple [.int .u8 (Int.ofNat 2), .int .u64 (Int.ofNat 0)]], s⟩ := by
  have hne : b ≠ bm := fun h => by rw [h, hm] at hb; cases hb
  obtain ⟨t0, c6, nt, rt⟩ := ht.small 6 (by decide)
  obtain ⟨q0, c7, nq, rq⟩ := hq.small 7 (by decide)
  have h := put2 (runX_sound mixed none_sound (d1a (.map (mapE .u64 .u64 es) bn ck) .dead 0 0 [] [] t0 q0 k v 0) ⟨lk_out rfl hx, ⟨del_out rfl hx, rfl⟩, trivial⟩) [] rfl rfl (and2 rfl (and2 nt (and2 nq rfl))) (names_mapE _ _) rfl (and2 rfl (and2 (pN_8 nt) (and2 (pN_8 nq) rfl))) (names_mapE _ _) (.inl rfl) trivial List.nodup_nil rfl (p4 b bm c6 c7) hne (s := s) (by show s.get b = some (.cells false [.map bm, t0.ren _, q0.ren _]); rw [rt _ rfl, rq _ rfl]; exact hb) (by show s.get bm = some (.map (renE _ _) bn ck); rw [ren_mapE]; exact hm)
  have e4 : ∀ n l, (AObj.cells false (rens (pR 8 l (p4 b bm c6 c7) n) [.map 5, t0, q0])) = .cells false [.map bm, t, q] := fun n l => by
    show AObj.cells false [.map bm, t0.ren _, q0.ren _] = _
    rw [rt _ rfl, rq _ rfl]
  rw [e4] at h
  simp only [AObj.ren, ren_mapE, List.map_nil, pushL] at h
  exact rec_same2 h hb hm
theorem D1n {s : AS} {b : Nat} {t : AV} {q : AV} {k : Int} {v : Int} (hb : s.get b = some (.cells false [.nilMap, t, q])) (ht : Mp t) (hq : Ql q) : Sound Try.prog (.call 9 [.ptr b 0, .int .u8 (Int.ofNat 1), .int .u64 k, .int .u64 v] s) ⟨.ret, [.tuple [.int .u8 (Int.ofNat 2), .int .u64 (Int.ofNat 0)]], s⟩ := by
  obtain ⟨t0, c6, nt, rt⟩ := ht.small 6 (by decide)
  obtain ⟨q0, c7, nq, rq⟩ := hq.small 7 (by decide)
  have h := put1 (runX_sound mixed none_sound (d1n .dead .dead 0 0 [] [] t0 q0 k v 0) trivial) [] rfl (and2 rfl (and2 nt (and2 nq rfl))) (and2 rfl (and2 (pN_8 nt) (and2 (pN_8 nq) rfl))) trivial List.nodup_nil rfl (p4 b 0 c6 c7) (s := s) (by show s.get b = some (.cells false [.nilMap, t0.ren _, q0.ren _]); rw [rt _ rfl, rq _ rfl]; exact hb)
  have e4 : ∀ n l, (AObj.cells false (rens (pR 8 l (p4 b 0 c6 c7) n) [.nilMap, t0, q0])) = .cells false [.nilMap, t, q] := fun n l => by
    show AObj.cells false [.nilMap, t0.ren _, q0.ren _] = _
    rw [rt _ rfl, rq _ rfl]
  rw [e4] at h
  exact rec_same1 h hb
theorem D2y {s : AS} {b : Nat} {bm : Nat} {ck : Nat} {bn : List Nat} {es : List (Int × Int)} {t : AV} {q : AV} {k : Int} {v : Int} {x : Int} (hb : s.get b = some (.cells false [.map bm, t, q])) (hm : s.get bm = some (.map (mapE .u64 .u64 es) bn ck)) (ht : Mp t) (hq : Ql q) (hx : getM es k = some x) : Sound Try.prog (.call 9 [.ptr b 0, .int .u8 (Int.ofNat 2), .int .u64 k, .int .u64 v] s) ⟨.ret, [.tuple [.int .u8 (Int.ofNat 1), .int .u64 (Int.ofNat 0)]], s⟩ := by
  have hne : b ≠ bm := fun h => by rw [h, hm] at hb; cases hb
  obtain ⟨t0, c6, nt, rt⟩ := ht.small 6 (by decide)
  obtain ⟨q0, c7, nq, rq⟩ := hq.small 7 (by decide)
  have h := put2 (runX_sound mixed none_sound (d2y (.map (mapE .u64 .u64 es) bn ck) .dead 0 0 [] [] t0 q0 k v x) ⟨lk_in rfl hx, trivial⟩) [] rfl rfl (and2 rfl (and2 nt (and2 nq rfl))) (names_mapE _ _) rfl (and2 rfl (and2 (pN_8 nt) (and2 (pN_8 nq) rfl))) (names_mapE _ _) (.inl rfl) trivial List.nodup_nil rfl (p4 b bm c6 c7) hne (s := s) (by show s.get b = some (.cells false [.map bm, t0.ren _, q0.ren _]); rw [rt _ rfl, rq _ rfl]; exact hb) (by show s.get bm = some (.map (renE _ _) bn ck); rw [ren_mapE]; exact hm)
  have e4 : ∀ n l, (AObj.cells false (rens (pR 8 l (p4 b bm c6 c7) n) [.map 5, t0, q0])) = .cells false [.map bm, t, q] := fun n l => by
    show AObj.cells false [.map bm, t0.ren _, q0.ren _] = _
    rw [rt _ rfl, rq _ rfl]
  rw [e4] at h
  simp only [AObj.ren, ren_mapE, List.map_nil, pushL] at h
  exact rec_same2 h hb hm
theorem D2a {s : AS} {b : Nat} {bm : Nat} {ck : Nat} {bn : List Nat} {es : List (Int × Int)} {t : AV} {q : AV} {k : Int} {v : Int} (hb : s.get b = some (.cells false [.map bm, t, q])) (hm : s.get bm = some (.map (mapE .u64 .u64 es) bn ck)) (ht : Mp t) (hq : Ql q) (hx : getM es k = none) : Sound Try.prog (.call 9 [.ptr b 0, .int .u8 (Int.ofNat 2), .int .u64 k, .int .u64 v] s) ⟨.ret, [.tuple [.int .u8 (Int.ofNat 2), .int .u64 (Int.ofNat 0)]], s⟩ := by
  have hne : b ≠ bm := fun h => by rw [h, hm] at hb; cases hb
  obtain ⟨t0, c6, nt, rt⟩ := ht.small 6 (by decide)
  obtain ⟨q0, c7, nq, rq⟩ := hq.small 7 (by decide)
  have h := put2 (runX_sound mixed none_sound (d2a (.map (mapE .u64 .u64 es) bn ck) .dead 0 0 [] [] t0 q0 k v 0) ⟨lk_out rfl hx, trivial⟩) [] rfl rfl (and2 rfl (and2 nt (and2 nq rfl))) (names_mapE _ _) rfl (and2 rfl (and2 (pN_8 nt) (and2 (pN_8 nq) rfl))) (names_mapE _ _) (.inl rfl) trivial List.nodup_nil rfl (p4 b bm c6 c7) hne (s := s) (by show s.get b = some (.cells false [.map bm, t0.ren _, q0.ren _]); rw [rt _ rfl, rq _ rfl]; exact hb) (by show s.get bm = some (.map (renE _ _) bn ck); rw [ren_mapE]; exact hm)
  have e4 : ∀ n l, (AObj.cells false (rens (pR 8 l (p4 b bm c6 c7) n) [.map 5, t0, q0])) = .cells false [.map bm, t, q] := fun n l => by
    show AObj.cells false [.map bm, t0.ren _, q0.ren _] = _
    rw [rt _ rfl, rq _ rfl]
  rw [e4] at h
  simp only [AObj.ren, ren_mapE, List.map_nil, pushL] at h
  exact rec_same2 h hb hm
theorem D2n {s : AS} {b : Nat} {t : AV} {q : AV} {k : Int} {v : Int} (hb : s.get b = some (.cells false [.nilMap, t, q])) (ht : Mp t) (hq : Ql q) : Sound Try.prog (.call 9 [.ptr b 0, .int .u8 (Int.ofNat 2), .int .u64 k, .int .u64 v] s) ⟨.ret, [.tuple [.int .u8 (Int.ofNat 2), .int .u64 (Int.ofNat 0)]], s⟩ := by
  obtain ⟨t0, c6, nt, rt⟩ := ht.small 6 (by decide)
  obtain ⟨q0, c7, nq, rq⟩ := hq.small 7 (by decide)
  have h := put1 (runX_sound mixed none_sound (d2n .dead .dead 0 0 [] [] t0 q0 k v 0) trivial) [] rfl (and2 rfl (and2 nt (and2 nq rfl))) (and2 rfl (and2 (pN_8 nt) (and2 (pN_8 nq) rfl))) trivial List.nodup_nil rfl (p4 b 0 c6 c7) (s := s) (by show s.get b = some (.cells false [.nilMap, t0.ren _, q0.ren _]); rw [rt _ rfl, rq _ rfl]; exact hb)
  have e4 : ∀ n l, (AObj.cells false (rens (pR 8 l (p4 b 0 c6 c7) n) [.nilMap, t0, q0])) = .cells false [.nilMap, t, q] := fun n l => by
    show AObj.cells false [.nilMap, t0.ren _, q0.ren _] = _
    rw [rt _ rfl, rq _ rfl]
  rw [e4] at h
  exact rec_same1 h hb
theorem D5y {s : AS} {b : Nat} {bm : Nat} {ck : Nat} {bn : List Nat} {es : List (Int × Int)} {t : AV} {q : AV} {k : Int} {v : Int} {x : Int} (hb : s.get b = some (.cells false [t, .map bm, q])) (hm : s.get bm = some (.map (mapE .u64 .u64 es) bn ck)) (ht : Mp t) (hq : Ql q) (hx : getM es k = some x) : Sound Try.prog (.call 9 [.ptr b 0, .int .u8 (Int.ofNat 5), .int .u64 k, .int .u64 v] s) ⟨.ret, [.tuple [.int .u8 (Int.ofNat 2), .int .u64 (Int.ofNat 0)]], s⟩ := by
  have hne : b ≠ bm := fun h => by rw [h, hm] at hb; cases hb
  obtain ⟨t0, c6, nt, rt⟩ := ht.small 6 (by decide)
  obtain ⟨q0, c7, nq, rq⟩ := hq.small 7 (by decide)
  have h := put2 (runX_sound mixed none_sound (d5y (.map (mapE .u64 .u64 es) bn ck) .dead 0 0 [] [] t0 q0 k v x) ⟨lk_in rfl hx, trivial⟩) [] rfl rfl (and2 nt (and2 rfl (and2 nq rfl))) (names_mapE _ _) rfl (and2 (pN_8 nt) (and2 rfl (and2 (pN_8 nq) rfl))) (names_mapE _ _) (.inl rfl) trivial List.nodup_nil rfl (p4 b bm c6 c7) hne (s := s) (by show s.get b = some (.cells false [t0.ren _, .map bm, q0.ren _]); rw [rt _ rfl, rq _ rfl]; exact hb) (by show s.get bm = some (.map (renE _ _) bn ck); rw [ren_mapE]; exact hm)
  have e4 : ∀ n l, (AObj.cells false (rens (pR 8 l (p4 b bm c6 c7) n) [t0, .map 5, q0])) = .cells false [t, .map bm, q] := fun n l => by
    show AObj.cells false [t0.ren _, .map bm, q0.ren _] = _
    rw [rt _ rfl, rq _ rfl]
  rw [e4] at h
  simp only [AObj.ren, ren_mapE, List.map_nil, pushL] at h
  exact rec_same2 h hb hm
theorem D5a {s : AS} {b : Nat} {bm : Nat} {ck : Nat} {bn : List Nat} {es : List (Int × Int)} {t : AV} {q : AV} {k : Int} {v : Int} (hb : s.get b = some (.cells false [t, .map bm, q])) (hm : s.get bm = some (.map (mapE .u64 .u64 es) bn ck)) (ht : Mp t) (hq : Ql q) (hx : getM es k = none) : Sound Try.prog (.call 9 [.ptr b 0, .int .u8 (Int.ofNat 5), .int .u64 k, .int .u64 v] s) ⟨.ret, [.tuple [.int .u8 (Int.ofNat 1), .int .u64 (Int.ofNat 0)]], s.set bm (.map (mapE .u64 .u64 (putM es k v)) (bn ++ [ck]) (ck + 1))⟩ := by
  have hne : b ≠ bm := fun h => by rw [h, hm] at hb; cases hb
  obtain ⟨t0, c6, nt, rt⟩ := ht.small 6 (by decide)
  obtain ⟨q0, c7, nq, rq⟩ := hq.small 7 (by decide)
  have h := put2 (runX_sound mixed none_sound (d5a (.map (mapE .u64 .u64 es) bn ck) (.map (mapE .u64 .u64 (putM es k v)) (bn ++ [ck]) (ck + 1)) 0 0 [] [] t0 q0 k v 0) ⟨lk_out rfl hx, ⟨upd_out v rfl hx, rfl⟩, trivial⟩) [] rfl rfl (and2 nt (and2 rfl (and2 nq rfl))) (names_mapE _ _) rfl (and2 (pN_8 nt) (and2 rfl (and2 (pN_8 nq) rfl))) (names_mapE _ _) (.inl rfl) trivial List.nodup_nil rfl (p4 b bm c6 c7) hne (s := s) (by show s.get b = some (.cells false [t0.ren _, .map bm, q0.ren _]); rw [rt _ rfl, rq _ rfl]; exact hb) (by show s.get bm = some (.map (renE _ _) bn ck); rw [ren_mapE]; exact hm)
  have e4 : ∀ n l, (AObj.cells false (rens (pR 8 l (p4 b bm c6 c7) n) [t0, .map 5, q0])) = .cells false [t, .map bm, q] := fun n l => by
    show AObj.cells false [t0.ren _, .map bm, q0.ren _] = _
    rw [rt _ rfl, rq _ rfl]
  rw [e4] at h
  simp only [AObj.ren, ren_mapE, List.map_nil, pushL] at h
  exact rec_half2 h hb
theorem D5n {s : AS} {b : Nat} {t : AV} {q : AV} {k : Int} {v : Int} (hb : s.get b = some (.cells false [t, .nilMap, q])) (ht : Mp t) (hq : Ql q) : Sound Try.prog (.call 9 [.ptr b 0, .int .u8 (Int.ofNat 5), .int .u64 k, .int .u64 v] s) ⟨.ret, [.tuple [.int .u8 (Int.ofNat 1), .int .u64 (Int.ofNat 0)]], (s.set b (.cells false [t, .map s.nx, q])).push (.map [(.int .u64 k, .int .u64 v)] [0] 1)⟩ := by
  obtain ⟨t0, c6, nt, rt⟩ := ht.small 6 (by decide)
  obtain ⟨q0, c7, nq, rq⟩ := hq.small 7 (by decide)
  have h := put1 (runX_sound mixed none_sound (d5n .dead .dead 0 0 [] [] t0 q0 k v 0) trivial) [(15, .map [(.int .u64 k, .int .u64 v)] [0] 1)] rfl (and2 nt (and2 rfl (and2 nq rfl))) (and2 (pN_8 nt) (and2 rfl (and2 (pN_8 nq) rfl))) ⟨⟨show 8 ≤ 15 by decide, rfl, rfl, rfl⟩, trivial⟩ (show [15].Nodup by decide) rfl (p4 b 0 c6 c7) (s := s) (by show s.get b = some (.cells false [t0.ren _, .nilMap, q0.ren _]); rw [rt _ rfl, rq _ rfl]; exact hb)
  have e4 : (AObj.cells false (rens (pR 8 [15] (p4 b 0 c6 c7) s.nx) [t0, .map 15, q0])) = .cells false [t, .map s.nx, q] := by
    show AObj.cells false [t0.ren _, .map (s.nx + 0), q0.ren _] = _
    rw [rt _ rfl, rq _ rfl, Nat.add_zero]
  simp only [List.map_cons, List.map_nil] at h
  rw [e4] at h
  exact h
theorem D6y {s : AS} {b : Nat} {bm : Nat} {ck : Nat} {bn : List Nat} {es : List (Int × Int)} {t : AV} {q : AV} {k : Int} {v : Int} {x : Int} (hb : s.get b = some (.cells false [t, .map bm, q])) (hm : s.get bm = some (.map (mapE .u64 .u64 es) bn ck)) (ht : Mp t) (hq : Ql q) (hx : getM es k = some x) : Sound Try.prog (.call 9 [.ptr b 0, .int .u8 (Int.ofNat 6), .int .u64 k, .int .u64 v] s) ⟨.ret, [.tuple [.int .u8 (Int.ofNat 1), .int .u64 (Int.ofNat 0)]], s.set bm (.map (mapE .u64 .u64 (delM es k)) (bn.eraseIdx (posM es k)) ck)⟩ := by
  have hne : b ≠ bm := fun h => by rw [h, hm] at hb; cases hb
  obtain ⟨t0, c6, nt, rt⟩ := ht.small 6 (by decide)
  obtain ⟨q0, c7, nq, rq⟩ := hq.small 7 (by decide)
  have h := put2 (runX_sound mixed none_sound (d6y (.map (mapE .u64 .u64 es) bn ck) (.map (mapE .u64 .u64 (delM es k)) (bn.eraseIdx (posM es k)) ck) 0 0 [] [] t0 q0 k v x) ⟨lk_in rfl hx, ⟨del_in rfl hx, rfl⟩, trivial⟩) [] rfl rfl (and2 nt (and2 rfl (and2 nq rfl))) (names_mapE _ _) rfl (and2 (pN_8 nt) (and2 rfl (and2 (pN_8 nq) rfl))) (names_mapE _ _) (.inl rfl) trivial List.nodup_nil rfl (p4 b bm c6 c7) hne (s := s) (by show s.get b = some (.cells false [t0.ren _, .map bm, q0.ren _]); rw [rt _ rfl, rq _ rfl]; exact hb) (by show s.get bm = some (.map (renE _ _) bn ck); rw [ren_mapE]; exact hm)
  have e4 : ∀ n l, (AObj.cells false (rens (pR 8 l (p4 b bm c6 c7) n) [t0, .map 5, q0])) = .cells false [t, .map bm, q] := fun n l => by
    show AObj.cells false [t0.ren _, .map bm, q0.ren _] = _
    rw [rt _ rfl, rq _ rfl]
  rw [e4] at h
  simp only [AObj.ren, ren_mapE, List.map_nil, pushL] at h
  exact rec_half2 h hb
theorem D6a {s : AS} {b : Nat} {bm : Nat} {ck : Nat} {bn : List Nat} {es : List (Int × Int)} {t : AV} {q : AV} {k : Int} {v : Int} (hb : s.get b = some (.cells false [t, .map bm, q])) (hm : s.get bm = some (.map (mapE .u64 .u64 es) bn ck)) (ht : Mp t) (hq : Ql q) (hx : getM es k = none) : Sound Try.prog (.call 9 [.ptr b 0, .int .u8 (Int.ofNat 6), .int .u64 k, .int .u64 v] s) ⟨.ret, [.tuple [.int .u8 (Int.ofNat 2), .int .u64 (Int.ofNat 0)]], s⟩ := by
  have hne : b ≠ bm := fun h => by rw [h, hm] at hb; cases hb
  obtain ⟨t0, c6, nt, rt⟩ := ht.small 6 (by decide)
  obtain ⟨q0, c7, nq, rq⟩ := hq.small 7 (by decide)
  have h := put2 (runX_sound mixed none_sound (d6a (.map (mapE .u64 .u64 es) bn ck) .dead 0 0 [] [] t0 q0 k v 0) ⟨lk_out rfl hx, ⟨del_out rfl hx, rfl⟩, trivial⟩) [] rfl rfl (and2 nt (and2 rfl (and2 nq rfl))) (names_mapE _ _) rfl (and2 (pN_8 nt) (and2 rfl (and2 (pN_8 nq) rfl))) (names_mapE _ _) (.inl rfl) trivial List.nodup_nil rfl (p4 b bm c6 c7) hne (s := s) (by show s.get b = some (.cells false [t0.ren _, .map bm, q0.ren _]); rw [rt _ rfl, rq _ rfl]; exact hb) (by show s.get bm = some (.map (renE _ _) bn ck); rw [ren_mapE]; exact hm)
  have e4 : ∀ n l, (AObj.cells false (rens (pR 8 l (p4 b bm c6 c7) n) [t0, .map 5, q0])) = .cells false [t, .map bm, q] := fun n l => by
    show AObj.cells false [t0.ren _, .map bm, q0.ren _] = _
    rw [rt _ rfl, rq _ rfl]
  rw [e4] at h
  simp only [AObj.ren, ren_mapE, List.map_nil, pushL] at h
  exact rec_same2 h hb hm
theorem D6n {s : AS} {b : Nat} {t : AV} {q : AV} {k : Int} {v : Int} (hb : s.get b = some (.cells false [t, .nilMap, q])) (ht : Mp t) (hq : Ql q) : Sound Try.prog (.call 9 [.ptr b 0, .int .u8 (Int.ofNat 6), .int .u64 k, .int .u64 v] s) ⟨.ret, [.tuple [.int .u8 (Int.ofNat 2), .int .u64 (Int.ofNat 0)]], s⟩ := by
  obtain ⟨t0, c6, nt, rt⟩ := ht.small 6 (by decide)
  obtain ⟨q0, c7, nq, rq⟩ := hq.small 7 (by decide)
  have h := put1 (runX_sound mixed none_sound (d6n .dead .dead 0 0 [] [] t0 q0 k v 0) trivial) [] rfl (and2 nt (and2 rfl (and2 nq rfl))) (and2 (pN_8 nt) (and2 rfl (and2 (pN_8 nq) rfl))) trivial List.nodup_nil rfl (p4 b 0 c6 c7) (s := s) (by show s.get b = some (.cells false [t0.ren _, .nilMap, q0.ren _]); rw [rt _ rfl, rq _ rfl]; exact hb)
  have e4 : ∀ n l, (AObj.cells false (rens (pR 8 l (p4 b 0 c6 c7) n) [t0, .nilMap, q0])) = .cells false [t, .nilMap, q] := fun n l => by
    show AObj.cells false [t0.ren _, .nilMap, q0.ren _] = _
    rw [rt _ rfl, rq _ rfl]
  rw [e4] at h
  exact rec_same1 h hb
theorem D7y {s : AS} {b : Nat} {bm : Nat} {ck : Nat} {bn : List Nat} {es : List (Int × Int)} {t : AV} {q : AV} {k : Int} {v : Int} {x : Int} (hb : s.get b = some (.cells false [t, .map bm, q])) (hm : s.get bm = some (.map (mapE .u64 .u64 es) bn ck)) (ht : Mp t) (hq : Ql q) (hx : getM es k = some x) : Sound Try.prog (.call 9 [.ptr b 0, .int .u8 (Int.ofNat 7), .int .u64 k, .int .u64 v] s) ⟨.ret, [.tuple [.int .u8 (Int.ofNat 1), .int .u64 x]], s⟩ := by
  have hne : b ≠ bm := fun h => by rw [h, hm] at hb; cases hb
  obtain ⟨t0, c6, nt, rt⟩ := ht.small 6 (by decide)
  obtain ⟨q0, c7, nq, rq⟩ := hq.small 7 (by decide)
  have h := put2 (runX_sound mixed none_sound (d7y (.map (mapE .u64 .u64 es) bn ck) .dead 0 0 [] [] t0 q0 k v x) ⟨lk_in rfl hx, trivial⟩) [] rfl rfl (and2 nt (and2 rfl (and2 nq rfl))) (names_mapE _ _) rfl (and2 (pN_8 nt) (and2 rfl (and2 (pN_8 nq) rfl))) (names_mapE _ _) (.inl rfl) trivial List.nodup_nil rfl (p4 b bm c6 c7) hne (s := s) (by show s.get b = some (.cells false [t0.ren _, .map bm, q0.ren _]); rw [rt _ rfl, rq _ rfl]; exact hb) (by show s.get bm = some (.map (renE _ _) bn ck); rw [ren_mapE]; exact hm)
  have e4 : ∀ n l, (AObj.cells false (rens (pR 8 l (p4 b bm c6 c7) n) [t0, .map 5, q0])) = .cells false [t, .map bm, q] := fun n l => by
    show AObj.cells false [t0.ren _, .map bm, q0.ren _] = _
    rw [rt _ rfl, rq _ rfl]
  rw [e4] at h
  simp only [AObj.ren, ren_mapE, List.map_nil, pushL] at h
  exact rec_same2 h hb hm
theorem D7a {s : AS} {b : Nat} {bm : Nat} {ck : Nat} {bn : List Nat} {es : List (Int × Int)} {t : AV} {q : AV} {k : Int} {v : Int} (hb : s.get b = some (.cells false [t, .map bm, q])) (hm : s.get bm = some (.map (mapE .u64 .u64 es) bn ck)) (ht : Mp t) (hq : Ql q) (hx : getM es k = none) : Sound Try.prog (.call 9 [.ptr b 0, .int .u8 (Int.ofNat 7), .int .u64 k, .int .u64 v] s) ⟨.ret, [.tuple [.int .u8 (Int.ofNat 2), .int .u64 0]], s⟩ := by
  have hne : b ≠ bm := fun h => by rw [h, hm] at hb; cases hb
  obtain ⟨t0, c6, nt, rt⟩ := ht.small 6 (by decide)
  obtain ⟨q0, c7, nq, rq⟩ := hq.small 7 (by decide)
  have h := put2 (runX_sound mixed none_sound (d7a (.map (mapE .u64 .u64 es) bn ck) .dead 0 0 [] [] t0 q0 k v 0) ⟨lk_out rfl hx, trivial⟩) [] rfl rfl (and2 nt (and2 rfl (and2 nq rfl))) (names_mapE _ _) rfl (and2 (pN_8 nt) (and2 rfl (and2 (pN_8 nq) rfl))) (names_mapE _ _) (.inl rfl) trivial List.nodup_nil rfl (p4 b bm c6 c7) hne (s := s) (by show s.get b = some (.cells false [t0.ren _, .map bm, q0.ren _]); rw [rt _ rfl, rq _ rfl]; exact hb) (by show s.get bm = some (.map (renE _ _) bn ck); rw [ren_mapE]; exact hm)
  have e4 : ∀ n l, (AObj.cells false (rens (pR 8 l (p4 b bm c6 c7) n) [t0, .map 5, q0])) = .cells false [t, .map bm, q] := fun n l => by
    show AObj.cells false [t0.ren _, .map bm, q0.ren _] = _
    rw [rt _ rfl, rq _ rfl]
  rw [e4] at h
  simp only [AObj.ren, ren_mapE, List.map_nil, pushL] at h
  exact rec_same2 h hb hm
theorem D7n {s : AS} {b : Nat} {t : AV} {q : AV} {k : Int} {v : Int} (hb : s.get b = some (.cells false [t, .nilMap, q])) (ht : Mp t) (hq : Ql q) : Sound Try.prog (.call 9 [.ptr b 0, .int .u8 (Int.ofNat 7), .int .u64 k, .int .u64 v] s) ⟨.ret, [.tuple [.int .u8 (Int.ofNat 2), .int .u64 (Int.ofNat 0)]], s⟩ := by
  obtain ⟨t0, c6, nt, rt⟩ := ht.small 6 (by decide)
  obtain ⟨q0, c7, nq, rq⟩ := hq.small 7 (by decide)
  have h := put1 (runX_sound mixed none_sound (d7n .dead .dead 0 0 [] [] t0 q0 k v 0) trivial) [] rfl (and2 nt (and2 rfl (and2 nq rfl))) (and2 (pN_8 nt) (and2 rfl (and2 (pN_8 nq) rfl))) trivial List.nodup_nil rfl (p4 b 0 c6 c7) (s := s) (by show s.get b = some (.cells false [t0.ren _, .nilMap, q0.ren _]); rw [rt _ rfl, rq _ rfl]; exact hb)
  have e4 : ∀ n l, (AObj.cells false (rens (pR 8 l (p4 b 0 c6 c7) n) [t0, .nilMap, q0])) = .cells false [t, .nilMap, q] := fun n l => by
    show AObj.cells false [t0.ren _, .nilMap, q0.ren _] = _
    rw [rt _ rfl, rq _ rfl]
  rw [e4] at h
  exact rec_same1 h hb
theorem D3n {s : AS} {b : Nat} {t : AV} {q : AV} {k : Int} {v : Int} (hb : s.get b = some (.cells false [t, q, .nilSlice])) (ht : Mp t) (hq : Mp q) : Sound Try.prog (.call 9 [.ptr b 0, .int .u8 (Int.ofNat 3), .int .u64 k, .int .u64 v] s) ⟨.ret, [.tuple [.int .u8 (Int.ofNat 1), .int .u64 (Int.ofNat 0)]], (s.set b (.cells false [t, q, .osl s.nx 0 1 1])).push (.cells false [.int .u64 v])⟩ := by
  obtain ⟨t0, c6, nt, rt⟩ := ht.small 6 (by decide)
  obtain ⟨q0, c7, nq, rq⟩ := hq.small 7 (by decide)
  have h := put1 (runX_sound mixed none_sound (d3n .dead .dead 0 0 [] [] t0 q0 k v 0) trivial) [(16, .cells false [.int .u64 v])] rfl (and2 nt (and2 nq (and2 rfl rfl))) (and2 (pN_8 nt) (and2 (pN_8 nq) (and2 rfl rfl))) ⟨⟨show 8 ≤ 16 by decide, rfl, rfl, rfl⟩, trivial⟩ (show [16].Nodup by decide) rfl (p4 b 0 c6 c7) (s := s) (by show s.get b = some (.cells false [t0.ren _, q0.ren _, .nilSlice]); rw [rt _ rfl, rq _ rfl]; exact hb)
  have e4 : (AObj.cells false (rens (pR 8 [16] (p4 b 0 c6 c7) s.nx) [t0, q0, .osl 16 0 1 1])) = .cells false [t, q, .osl s.nx 0 1 1] := by
    show AObj.cells false [t0.ren _, q0.ren _, .osl (s.nx + 0) 0 1 1] = _
    rw [rt _ rfl, rq _ rfl, Nat.add_zero]
  simp only [List.map_cons, List.map_nil] at h
  rw [e4] at h
  exact h
theorem D3s {s : AS} {b : Nat} {bm : Nat} {Q : List Int} {o : Nat} {n : Nat} {t : AV} {q : AV} {k : Int} {v : Int} (hb : s.get b = some (.cells false [t, q, .osl bm o n 1])) (hm : s.get bm = some (.cells false (uc Q))) (ht : Mp t) (hq : Mp q) (hne : b ≠ bm) (ho : o + n = Q.length) (hk : n < 16777216) : Sound Try.prog (.call 9 [.ptr b 0, .int .u8 (Int.ofNat 3), .int .u64 k, .int .u64 v] s) ⟨.ret, [.tuple [.int .u8 (Int.ofNat 1), .int .u64 (Int.ofNat 0)]], ((s.set b (.cells false [t, q, .osl s.nx 0 (n + 1) 1])).set bm .dead).push (.cells false (uc (Q.drop o ++ [v])))⟩ := by
  obtain ⟨t0, c6, nt, rt⟩ := ht.small 6 (by decide)
  obtain ⟨q0, c7, nq, rq⟩ := hq.small 7 (by decide)
  have h := put2 (runX_sound mixed none_sound (d3s .dead .dead o n (uc Q) (uc (Q.drop o ++ [v])) t0 q0 k v 0) ⟨app_off rfl ho rfl hk, trivial⟩) [(16, .cells false (uc (Q.drop o ++ [v])))] rfl rfl (and2 nt (and2 nq (and2 rfl rfl))) (names_uc _ _) rfl (and2 (pN_8 nt) (and2 (pN_8 nq) (and2 rfl rfl))) rfl (.inr rfl) ⟨⟨show 8 ≤ 16 by decide, rfl, rfl, names_uc _ _⟩, trivial⟩ (show [16].Nodup by decide) rfl (p4 b bm c6 c7) hne (s := s) (by show s.get b = some (.cells false [t0.ren _, q0.ren _, .osl bm o n 1]); rw [rt _ rfl, rq _ rfl]; exact hb) (by show s.get bm = some (.cells false (rens _ _)); rw [rens_uc]; exact hm)
  have e4 : (AObj.cells false (rens (pR 8 [16] (p4 b bm c6 c7) s.nx) [t0, q0, .osl 16 0 (n + 1) 1])) = .cells false [t, q, .osl s.nx 0 (n + 1) 1] := by
    show AObj.cells false [t0.ren _, q0.ren _, .osl (s.nx + 0) 0 (n + 1) 1] = _
    rw [rt _ rfl, rq _ rfl, Nat.add_zero]
  simp only [List.map_cons, List.map_nil] at h
  rw [e4] at h
  simp only [AObj.ren, rens_uc] at h
  exact h
theorem D4n {s : AS} {b : Nat} {t : AV} {q : AV} {k : Int} {v : Int} (hb : s.get b = some (.cells false [t, q, .nilSlice])) (ht : Mp t) (hq : Mp q) : Sound Try.prog (.call 9 [.ptr b 0, .int .u8 (Int.ofNat 4), .int .u64 k, .int .u64 v] s) ⟨.ret, [.tuple [.int .u8 (Int.ofNat 2), .int .u64 (Int.ofNat 0)]], s⟩ := by
  obtain ⟨t0, c6, nt, rt⟩ := ht.small 6 (by decide)
  obtain ⟨q0, c7, nq, rq⟩ := hq.small 7 (by decide)
  have h := put1 (runX_sound mixed none_sound (d4n .dead .dead 0 0 [] [] t0 q0 k v 0) trivial) [] rfl (and2 nt (and2 nq (and2 rfl rfl))) (and2 (pN_8 nt) (and2 (pN_8 nq) (and2 rfl rfl))) trivial List.nodup_nil rfl (p4 b 0 c6 c7) (s := s) (by show s.get b = some (.cells false [t0.ren _, q0.ren _, .nilSlice]); rw [rt _ rfl, rq _ rfl]; exact hb)
  have e4 : ∀ n l, (AObj.cells false (rens (pR 8 l (p4 b 0 c6 c7) n) [t0, q0, .nilSlice])) = .cells false [t, q, .nilSlice] := fun n l => by
    show AObj.cells false [t0.ren _, q0.ren _, .nilSlice] = _
    rw [rt _ rfl, rq _ rfl]
  rw [e4] at h
  exact rec_same1 h hb
theorem D4e {s : AS} {b : Nat} {bm : Nat} {Q : List Int} {o : Nat} {t : AV} {q : AV} {k : Int} {v : Int} (hb : s.get b = some (.cells false [t, q, .osl bm o 0 1])) (hm : s.get bm = some (.cells false (uc Q))) (ht : Mp t) (hq : Mp q) (hne : b ≠ bm) : Sound Try.prog (.call 9 [.ptr b 0, .int .u8 (Int.ofNat 4), .int .u64 k, .int .u64 v] s) ⟨.ret, [.tuple [.int .u8 (Int.ofNat 2), .int .u64 (Int.ofNat 0)]], s⟩ := by
  obtain ⟨t0, c6, nt, rt⟩ := ht.small 6 (by decide)
  obtain ⟨q0, c7, nq, rq⟩ := hq.small 7 (by decide)
  have h := put2 (runX_sound mixed none_sound (d4e .dead .dead o 0 (uc Q) [] t0 q0 k v 0) trivial) [] rfl rfl (and2 nt (and2 nq (and2 rfl rfl))) (names_uc _ _) rfl (and2 (pN_8 nt) (and2 (pN_8 nq) (and2 rfl rfl))) (names_uc _ _) (.inl rfl) trivial List.nodup_nil rfl (p4 b bm c6 c7) hne (s := s) (by show s.get b = some (.cells false [t0.ren _, q0.ren _, .osl bm o 0 1]); rw [rt _ rfl, rq _ rfl]; exact hb) (by show s.get bm = some (.cells false (rens _ _)); rw [rens_uc]; exact hm)
  have e4 : ∀ n l, (AObj.cells false (rens (pR 8 l (p4 b bm c6 c7) n) [t0, q0, .osl 5 o 0 1])) = .cells false [t, q, .osl bm o 0 1] := fun n l => by
    show AObj.cells false [t0.ren _, q0.ren _, .osl bm o 0 1] = _
    rw [rt _ rfl, rq _ rfl]
  rw [e4] at h
  simp only [AObj.ren, rens_uc, List.map_nil, pushL] at h
  exact rec_same2 h hb hm
theorem D4s {s : AS} {b : Nat} {bm : Nat} {Q : List Int} {o : Nat} {n : Nat} {t : AV} {q : AV} {k : Int} {v : Int} {x : Int} (hb : s.get b = some (.cells false [t, q, .osl bm o n 1])) (hm : s.get bm = some (.cells false (uc Q))) (ht : Mp t) (hq : Mp q) (hne : b ≠ bm) (hn : n ≠ 0) (hx : Q[o]? = some x) : Sound Try.prog (.call 9 [.ptr b 0, .int .u8 (Int.ofNat 4), .int .u64 k, .int .u64 v] s) ⟨.ret, [.tuple [.int .u8 (Int.ofNat 1), .int .u64 x]], s.set b (.cells false [t, q, .osl bm (o + 1) (n - 1) 1])⟩ := by
  obtain ⟨t0, c6, nt, rt⟩ := ht.small 6 (by decide)
  obtain ⟨q0, c7, nq, rq⟩ := hq.small 7 (by decide)
  have h := put2 (runX_sound mixed none_sound (d4s .dead .dead o n (uc Q) [] t0 q0 k v x) ⟨q_len0 hn, q_idx0 hn, q_ld hx, q_sli hn, trivial⟩) [] rfl rfl (and2 nt (and2 nq (and2 rfl rfl))) (names_uc _ _) rfl (and2 (pN_8 nt) (and2 (pN_8 nq) (and2 rfl rfl))) (names_uc _ _) (.inl rfl) trivial List.nodup_nil rfl (p4 b bm c6 c7) hne (s := s) (by show s.get b = some (.cells false [t0.ren _, q0.ren _, .osl bm o n 1]); rw [rt _ rfl, rq _ rfl]; exact hb) (by show s.get bm = some (.cells false (rens _ _)); rw [rens_uc]; exact hm)
  have e4 : ∀ m l, (AObj.cells false (rens (pR 8 l (p4 b bm c6 c7) m) [t0, q0, .osl 5 (o + 1) (n - 1) 1])) = .cells false [t, q, .osl bm (o + 1) (n - 1) 1] := fun m l => by
    show AObj.cells false [t0.ren _, q0.ren _, .osl bm (o + 1) (n - 1) 1] = _
    rw [rt _ rfl, rq _ rfl]
  rw [e4] at h
  simp only [AObj.ren, rens_uc, List.map_nil, pushL] at h
  exact rec_first2 h hm hne
end Go.Proofs.Ythooafgfpnedhaa.specsDo
namespace Go.Proofs.Ythooafgfpnedhaa.specsDo
open Go Go.Mini
abbrev uu : AV := .tuple [.nilMap]
end Go.Proofs.Ythooafgfpnedhaa.specsDo
namespace Go.Proofs.Ythooafgfpnedhaa.specsDo
open Go Go.Mini
/-! ### a row of numbers in block 2 -/
theorem i64_wrapS {x : Int} (h0 : -9223372036854775808 ≤ x) (h1 : x < 9223372036854775808) : IntKind.i64.wrap x = x := by
  simp [IntKind.wrap, IntKind.bits, IntKind.signed]; omega
theorem wq {n : Nat} (x : Int) (hx : x = Int.ofNat n) (h : n < 9223372036854775808) : (Qst.val (some (AV.int .i64 (IntKind.i64.wrap x))) (AV.int .i64 (Int.ofNat n))).ok Try.prog := by
  simp only [Qst.ok]
  rw [hx, i64_wrapS (by simp only [Int.ofNat_eq_natCast]; omega) (by simp only [Int.ofNat_eq_natCast]; omega)]
theorem ltq (a b : Nat) (r : Bool) (h : decide (a < b) = r) : (Qst.val (some (AV.bool (decide (Int.ofNat a < Int.ofNat b)))) (AV.bool r)).ok Try.prog := by
  simp only [Qst.ok]
  rw [← h]
  simp
theorem gtq (a b : Nat) (r : Bool) (h : decide (b < a) = r) : (Qst.val (some (AV.bool (decide (Int.ofNat a > Int.ofNat b)))) (AV.bool r)).ok Try.prog := by
  simp only [Qst.ok]
  rw [← h]
  congr 2
  simp
/-! ### swapRange -/
end Go.Proofs.Ythooafgfpnedhaa.specsDo
namespace Go.Proofs.Ythooafgfpnedhaa.specsDo
open Go Go.Mini
/-! ### specs.Witness -/
theorem rensW (π : Nat → Nat) : ∀ n, rens π (List.replicate n uu) = List.replicate n uu
  | 0 => rfl
  | n + 1 => by
    show uu.ren π :: rens π (List.replicate n uu) = uu :: List.replicate n uu
    rw [rensW π n]
    rfl
end Go.Proofs.Ythooafgfpnedhaa.specsDo
namespace Go.Proofs.Ythooafgfpnedhaa.specsDo
open Go Go.Mini
/-! ### the state, and what an op makes of it: one form for all ways -/
theorem freeMap (es : List (Int × Int)) (bn : List Nat) (ck : Nat) : Free (.map (mapE .u64 .u64 es) bn ck) := ⟨rfl, names_mapE _ _⟩
theorem freeUc (Q : List Int) : Free (.cells false (uc Q)) := ⟨rfl, names_uc _ _⟩
def QO (Q : Option (List Int × Nat)) (q : AV) (b : Nat) (o : AObj) : Prop := match Q with
  | none => q = .nilSlice ∧ Free o
  | some (R, k) => q = .osl b k (R.length - k) 1 ∧ o = .cells false (uc R) ∧ k ≤ R.length
theorem QO.mk {R : List Int} {b k n : Nat} (h : n = R.length - k) (hk : k ≤ R.length) : QO (some (R, k)) (.osl b k n 1) b (.cells false (uc R)) := And.intro (by rw [h]) (And.intro rfl hk)
section
variable {S : Option (List (Int × Int))} {Q : Option (List Int × Nat)} {m : AV} {b : Nat} {o : AObj}
theorem QO.fr (h : QO Q m b o) : Free o := by
  cases Q with
  | none => exact h.2
  | some R => obtain ⟨_, rfl, _⟩ := h; exact freeUc R.1
theorem QO.ql (h : QO Q m b o) : Ql m := by
  cases Q with
  | none => exact .inl h.1
  | some R => exact .inr ⟨b, _, _, h.1⟩
theorem QO.ren (h : QO Q m b o) (π : Nat → Nat) (hp : π b = b) : m.ren π = m := by
  cases Q with
  | none => rw [h.1]; rfl
  | some R => rw [h.1]; simp [AV.ren, hp]
theorem QO.nm (h : QO Q m b o) {n : Nat} (hb : b < n) : m.names (fun c => Nat.blt c n) = true := by
  cases Q with
  | none => rw [h.1]; rfl
  | some R => rw [h.1]; simpa [AV.names] using hb
end
structure S3 where
  mS : AV
  mT : AV
  q : AV
  oS : AObj
  oT : AObj
  oQ : AObj
def qv : Option (List Int × Nat) → List Int
  | none => []
  | some z => z.1.drop z.2
abbrev PS : Type := List (Int × Int) × List (Int × Int) × List Int
def rep (S T : Option (List (Int × Int))) (Q : Option (List Int × Nat)) : PS := (S.getD [], T.getD [], qv Q)
def putP (S : List (Int × Int)) (k v : Int) : (Nat × Int) × List (Int × Int) := match getM S k with
  | some _ => ((2, 0), S)
  | none => ((1, 0), putM S k v)
def dropP (S : List (Int × Int)) (k : Int) : (Nat × Int) × List (Int × Int) := match getM S k with
  | some _ => ((1, 0), delM S k)
  | none => ((2, 0), S)
/-- What an op answers, and what it makes of the state. -/
def stepP (ps : PS) (op : Nat) (k v : Int) : (Nat × Int) × PS := match op with
  | 0 => ((putP ps.1 k 0).1, (putP ps.1 k 0).2, ps.2.1, ps.2.2)
  | 1 => ((dropP ps.1 k).1, (dropP ps.1 k).2, ps.2.1, ps.2.2)
  | 2 => ((if (getM ps.1 k).isSome then 1 else 2, 0), ps)
  | 3 => ((1, 0), ps.1, ps.2.1, ps.2.2 ++ [v])
  | 4 => match ps.2.2 with
    | [] => ((2, 0), ps)
    | x :: Q => ((1, x), ps.1, ps.2.1, Q)
  | 5 => ((putP ps.2.1 k v).1, ps.1, (putP ps.2.1 k v).2, ps.2.2)
  | 6 => ((dropP ps.2.1 k).1, ps.1, (dropP ps.2.1 k).2, ps.2.2)
  | 7 => match getM ps.2.1 k with
    | some x => ((1, x), ps)
    | none => ((2, 0), ps)
  | _ => ((0, 0), ps)

def uni (s : AS) (c4 : List AV) (x1 x2 x3 : AObj) : AS := (((s.set 4 (.cells false c4)).set 1 x1).set 2 x2).set 3 x3
def ug (s : AS) (c4 : List AV) (x1 x2 x3 : AObj) (c : Nat) : Option AObj := if c = 3 then some x3 else if c = 2 then some x2 else if c = 1 then some x1 else if c = 4 then some (.cells false c4) else s.get c
section
variable {s : AS} {c0 c4 : List AV} {o1 o2 o3 x1 x2 x3 : AObj} (h4 : s.get 4 = some (.cells false c0)) (h1 : s.get 1 = some o1) (h2 : s.get 2 = some o2) (h3 : s.get 3 = some o3)
include h4 h1 h2 h3
theorem uni_get (c : Nat) : (uni s c4 x1 x2 x3).get c = ug s c4 x1 x2 x3 c := by
  unfold uni ug
  by_cases e3 : c = 3
  · subst e3
    simp [get_set, h3]
  by_cases e2 : c = 2
  · subst e2
    simp [get_set, h2]
  by_cases e1 : c = 1
  · subst e1
    simp [get_set, h1]
  by_cases e4 : c = 4
  · subst e4
    simp [get_set, h4]
  simp [get_set, e1, e2, e3, e4]
theorem uni_log : ∀ b, b < s.nx → b ∉ [3, 2, 1, 4] → (uni s c4 x1 x2 x3).get b = s.get b := by
  intro b _ hb
  rw [uni_get h4 h1 h2 h3]
  simp only [List.mem_cons, List.not_mem_nil, or_false, not_or] at hb
  unfold ug
  rw [if_neg hb.1, if_neg hb.2.1, if_neg hb.2.2.1, if_neg hb.2.2.2]
theorem toU {P : Program} {f : FuncId} {args vs : List AV} {e : AExit} {s1 : AS} (xN : AObj) (h : Sound P (.call f args s) ⟨e, vs, s1⟩) (hk : s1.h.bs.map (·.1) = s.h.bs.map (·.1)) (hnx : s1.nx = s.nx) (hlen : s1.h.len = s.h.len) (hg : ∀ c, s1.get c = ug s c4 x1 x2 x3 c) :
    Sound P (.call f args s) ⟨e, vs, (uni s c4 x1 x2 x3).push xN⟩ := by
  refine Sound.ghost xN (Sound.recast h (fun c => by rw [uni_get h4 h1 h2 h3, hg]) ?_ ?_ ?_ ⟨[3, 2, 1, 4], rfl, uni_log h4 h1 h2 h3⟩)
  · show (setB (setB (setB (setB s.h.bs 4 (.cells false c4)) 1 x1) 2 x2) 3 x3).map (·.1) = s1.h.bs.map (·.1)
    rw [setB_keys, setB_keys, setB_keys, setB_keys, hk]
  · exact hnx.symm
  · exact hlen.symm
theorem toUp {P : Program} {f : FuncId} {args vs : List AV} {e : AExit} {s1 : AS} {xN : AObj} (h : Sound P (.call f args s) ⟨e, vs, s1.push xN⟩) (hk : s1.h.bs.map (·.1) = s.h.bs.map (·.1)) (hnx : s1.nx = s.nx) (hlen : s1.h.len = s.h.len) (hg : ∀ c, s1.get c = ug s c4 x1 x2 x3 c) :
    Sound P (.call f args s) ⟨e, vs, (uni s c4 x1 x2 x3).push xN⟩ := by
  refine Sound.recast h (fun c => ?_) ?_ ?_ ?_ ⟨[3, 2, 1, 4], rfl, fun b hb hn => ?_⟩
  · have e1 : (uni s c4 x1 x2 x3).nx = s.nx := rfl
    rw [get_push, get_push, e1, hnx, uni_get h4 h1 h2 h3, hg]
  · show s.nx :: (setB (setB (setB (setB s.h.bs 4 (.cells false c4)) 1 x1) 2 x2) 3 x3).map (·.1) = s1.nx :: s1.h.bs.map (·.1)
    rw [setB_keys, setB_keys, setB_keys, setB_keys, hk, hnx]
  · show s.nx + 1 = s1.nx + 1
    rw [hnx]
  · show s.h.len + 1 = s1.h.len + 1
    rw [hlen]
  · have e1 : (uni s c4 x1 x2 x3).nx = s.nx := rfl
    rw [get_push, e1, if_neg (by omega)]
    exact uni_log h4 h1 h2 h3 b hb hn
end
/-- The blocks behind an op; r: whose place a new block takes (0: of none). -/
def moved (r nx b : Nat) : Nat := if b = r ∧ r ≠ 0 then nx else b
structure After (s : AS) (st' : S3) (r : Nat) (x1 x2 x3 xN : AObj) : Prop where
  le : r ≤ 3
  f1 : x1 = .dead ∨ Free x1
  f2 : x2 = .dead ∨ Free x2
  f3 : x3 = .dead ∨ Free x3
  fN : Free xN
  e1 : r ≠ 1 → x1 = st'.oS
  e2 : r ≠ 2 → x2 = st'.oT
  e3 : r ≠ 3 → x3 = st'.oQ
  n1 : r = 1 → xN = st'.oS
  n2 : r = 2 → xN = st'.oT
  n3 : r = 3 → xN = st'.oQ
def qlen : Option (List Int × Nat) → Nat
  | none => 0
  | some z => z.1.length
def phO : AObj := .map [] [] 0
theorem phFree : Free phO := ⟨rfl, rfl⟩
end Go.Proofs.Ythooafgfpnedhaa.specsDo
namespace Go.Proofs.Ythooafgfpnedhaa.specsDo
open Go Go.Mini
theorem d8 (op : Nat) (k v : Int) : runX Try.prog none_ 80 9 (.call 9 [.ptr 4 0, iB op, iW k, iW v] ⟨⟨[], 0, none, []⟩, 5⟩) [.val 9 1 2 (.tuple [.nilFunc, .bool false])] = some ({ e := .ret, ts := [.tuple [iB 0, iW (Int.ofNat 0)]], s := ⟨⟨[], 0, some 5, []⟩, 12⟩ }, [], [Qst.lk 76 ⟨⟨[(11, .cells false [.func (Fn.func 51) [] []]), (10, .cells false [.func (Fn.func 50) [] []]), (9, .cells false [.func (Fn.func 47) [] []]), (8, .cells false [.func (Fn.func 45) [] []]), (7, .cells false [.func (Fn.func 43) [] []]), (6, .cells false [.func (Fn.func 41) [] []]), (5, .map [(iB 0, .func (Fn.func 58) [] [.ptr 6 0]), (iB 1, .func (Fn.func 58) [] [.ptr 7 0]), (iB 2, .func (Fn.func 58) [] [.ptr 8 0]), (iB 3, .func (Fn.func 58) [] [.ptr 9 0]), (iB 4, .func (Fn.func 48) [] []), (iB 5, .func (Fn.func 58) [] [.ptr 10 0]), (iB 6, .func (Fn.func 58) [] [.ptr 11 0]), (iB 7, .func (Fn.func 52) [] [])] [0, 1, 2, 3, 4, 5, 6, 7] 8)], 7, some 5, []⟩, 12⟩ (.map 5) (iB op) true (.tuple [.nilFunc, .bool false])]) := by kernel_rfl
end Go.Proofs.Ythooafgfpnedhaa.specsDo
