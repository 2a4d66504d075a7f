/- The lines of an Alloc, a Free, a Make and a Retire, and the parts of a scan. Conditions: those that each theorem names, and no others. -/
import Derived.Test.YtofbdgmknfbkfaaGreatDoorLife6
import Derived.Test.YtofbdgmknfbkfaaGreatDoorJump1
namespace Go.Proofs.YtofbdgmknfbkfaaGreatDoor.nodesLife
open Go Go.Mini
/-! ### Alloc's steps, at canonical names -/
def i64 (x : Int) : AV := .int .i64 x
def u64 (x : Nat) : AV := .int .u64 (Int.ofNat x)
def u32 (x : Nat) : AV := .int .u32 (Int.ofNat x)
def u8 (x : Nat) : AV := .int .u8 (Int.ofNat x)
def tfS (M2 : PM) (O2 : AObj) (s : AS) : AS := (s.set 7 (.cells false (M2.C (.map 8)))).set 8 O2
def tfL (M2 : PM) (s : AS) : AS := s.set 7 (.cells false (M2.C (.map 8)))
def mo7 (M : PM) : AObj := .cells false (M.C (.map 8))
def mld (M : PM) (O : AObj) (a : A3) (h : Nat) (M2 : PM) : QI := .call 23 [.ptr 7 0, .agg (ak a)] (u64 h) (tfL M2) [(7, mo7 M), (8, O)]
def mst (M : PM) (O : AObj) (a : A3) (u : Nat) (M2 : PM) (O2 : AObj) : QI := .call 8 [.ptr 7 0, .agg (ak a), u64 u] undefA (tfS M2 O2) [(7, mo7 M), (8, O)]
def mcs (M : PM) (O : AObj) (a : A3) (w u : Nat) (b : Bool) (M2 : PM) (O2 : AObj) : QI := .call 111 [.ptr 7 0, .agg (ak a), u64 w, u64 u] (.bool b) (tfS M2 O2) [(7, mo7 M), (8, O)]
def ashQ (h : Nat) (z : Int) (t : Nat) : QI := .fix (.pure G 90 [u64 h] (.tuple [i64 z, u64 t]))
def headQ (z : Int) (t w : Nat) : QI := .fix (.pure G 92 [i64 z, u64 t] (u64 w))
def asrQ (w s g : Nat) : QI := .fix (.pure G 44 [u64 w] (.tuple [u8 s, u32 g]))
def hdrQ (s g w : Nat) : QI := .fix (.pure G 17 [u8 s, u32 g] (u64 w))
def vQ (x v : AV) : QI := .fix (.val (some x) v)
def GdOk (g : GD) (M M2 : PM) (O O2 : AObj) : Prop := g.L (mo7 M) O = g.R (mo7 M) O (mo7 M2) O2 ∧ g.stat = true
def popI : AV := .iface 143 (.ptr 16 0)
def hdrI : AV := .iface 156 (.ptr 16 0)
def keepF : AV := .func (.func 97) [] [.ptr 17 0]
def alO (d : AV) (line era : Nat) (slot : Int) (gen : Nat) (ok : Bool) : AObj := .cells false [d, i64 (Int.ofNat line), u64 era, i64 slot, u32 gen, .bool false, .bool ok]
def ppO (line head : Nat) (next slot : Int) (ok : Bool) : AObj := .cells false [i64 (Int.ofNat line), u64 head, i64 next, i64 slot, .bool ok]
def hdO (slot : Int) (to : AV) (gen : Nat) (read : Bool) (now : Nat) : AObj := .cells false [i64 slot, to, u32 gen, .bool read, u8 now]
def klO (n : Nat) : AObj := .cells false [u8 n]
def aA : List AV := [.ptr 15 0, .ptr 7 0]
def bA (l h : Nat) (x : Int) : List (Nat × AObj) := [(15, alO popI 1 0 (Int.negSucc 0) 0 false), (16, ppO l h x 0 false)]
def bA0 (h : Nat) (x : Int) : List (Nat × AObj) := [(15, alO popI 0 0 (Int.negSucc 0) 0 false), (16, ppO 0 h x 0 false)]
def bB (l e h : Nat) (z x : Int) : List (Nat × AObj) := [(15, alO popI l e z 0 false), (16, ppO 0 h x z true)]
def bH (e : Nat) (z : Int) (g : Nat) (rd : Bool) : List (Nat × AObj) := [(15, alO hdrI 1 e z 0 false), (16, hdO z keepF g rd 0), (17, klO 1)]
def bE (e : Nat) (z : Int) (g : Nat) : List (Nat × AObj) := [(15, alO hdrI 0 e z g true)]
section
variable (M M2 : PM) (O O2 : AObj) (h h2 t t3 e g s : Nat) (z x x2 sg : Int)
def g_a1n : GD := ⟨36, aA, bA 1 h x, bA0 h2 x, [], [], .bool true, [.call 89 1 3 (u64 h2) (tfL M2), .pure 89 2 4 G (.tuple [i64 z, u64 t]), .val 172 0 5 (.bool true)],
  [mld M O aF h2 M2, ashQ h2 z t, vQ (.bool (decide (z < 0))) (.bool true)]⟩
def g_a1y : GD := ⟨36, aA, bA 1 h x, bA 2 h2 x, [], [], .bool false, [.call 89 1 3 (u64 h2) (tfL M2), .pure 89 2 4 G (.tuple [i64 z, u64 t]), .val 172 0 5 (.bool false)],
  [mld M O aF h2 M2, ashQ h2 z t, vQ (.bool (decide (z < 0))) (.bool false)]⟩
def g_a2 : GD := ⟨36, aA, bA 2 h x, bA 3 h x2, [], [], .bool false, [.pure 173 0 5 G (.tuple [i64 z, u64 t]), .call 173 1 4 (u64 h2) (tfL M2), .pure 173 1 5 G (.tuple [i64 x2, u64 t3])],
  [ashQ h z t, mld M O (9, z, 2) h2 M2, ashQ h2 x2 t3]⟩
def g_a3n : GD := ⟨36, aA, bA 3 h x, bA 1 h x, [], [], .bool false, [.pure 93 1 4 G (.tuple [i64 z, u64 t]), .val 93 2 8 (u64 t3), .pure 93 2 9 G (u64 h2), .call 93 2 10 (.bool false) (tfS M2 O2)],
  [ashQ h z t, vQ (.int .u64 (Int.ofNat ((t + 1) % ((2 : Int) ^ IntKind.u64.bits).natAbs))) (u64 t3), headQ x t3 h2, mcs M O aF h h2 false M2 O2]⟩
def g_a3y : GD := ⟨36, aA, bA 3 h x, bB 2 0 h z x, [], [], .bool false, [.pure 93 1 4 G (.tuple [i64 z, u64 t]), .val 93 2 8 (u64 t3), .pure 93 2 9 G (u64 h2), .call 93 2 10 (.bool true) (tfS M2 O2), .pure 174 1 6 G (.tuple [i64 z, u64 t])],
  [ashQ h z t, vQ (.int .u64 (Int.ofNat ((t + 1) % ((2 : Int) ^ IntKind.u64.bits).natAbs))) (u64 t3), headQ x t3 h2, mcs M O aF h h2 true M2 O2, ashQ h z t]⟩
def g_a4 : GD := ⟨36, aA, bB 2 0 h z x, bB 3 0 h z x, [], [], .bool false, [.val 67 1 1 (i64 sg), .call 36 9 7 (u64 1) (tfL M2)],
  [vQ (.int .i64 (IntKind.i64.wrap (z.tdiv (Int.ofNat 8)))) (i64 sg), mld M O (6, sg, 0) 1 M2]⟩
def g_a5 : GD := ⟨36, aA, bB 3 0 h z x, bB 4 e h z x, [], [], .bool false, [.call 36 12 3 (u64 e) (tfL M2)], [mld M O aEra e M2]⟩
def g_a6 : GD := ⟨36, aA, bB 4 e h z x, bH e z 0 false, [(16, 26), (17, 25)], [25, 26], .bool false, [.call 36 15 11 undefA (tfS M2 O2)], [mst M O (9, z, 1) e M2 O2]⟩
def g_a7 : GD := ⟨36, aA, bH e z 0 false, bH e z g true, [], [], .bool false, [.call 175 2 7 (u64 h) (tfL M2), .pure 175 2 8 G (.tuple [u8 s, u32 g])], [mld M O (9, z, 0) h M2, asrQ h s g]⟩
def g_a8 : GD := ⟨36, aA, bH e z g true, bE e z g, [], [], .bool true, [.pure 175 6 14 G (u64 h), .call 175 6 15 undefA (tfS M2 O2)], [hdrQ 1 g h, mst M O (9, z, 0) h M2 O2]⟩
end
section
variable (M M2 : PM) (O O2 : AObj) (h h2 t t3 e g s : Nat) (z x x2 sg : Int)
theorem k_a1n : GdOk (g_a1n M M2 O h h2 t z x) M M2 O O := ⟨by kernel_rfl, by kernel_rfl⟩
theorem k_a1y : GdOk (g_a1y M M2 O h h2 t z x) M M2 O O := ⟨by kernel_rfl, by kernel_rfl⟩
theorem k_a2 : GdOk (g_a2 M M2 O h h2 t t3 z x x2) M M2 O O := ⟨by kernel_rfl, by kernel_rfl⟩
theorem k_a3n : GdOk (g_a3n M M2 O O2 h h2 t t3 z x) M M2 O O2 := ⟨by kernel_rfl, by kernel_rfl⟩
theorem k_a3y : GdOk (g_a3y M M2 O O2 h h2 t t3 z x) M M2 O O2 := ⟨by kernel_rfl, by kernel_rfl⟩
theorem k_a4 : GdOk (g_a4 M M2 O h z x sg) M M2 O O := ⟨by kernel_rfl, by kernel_rfl⟩
theorem k_a5 : GdOk (g_a5 M M2 O h e z x) M M2 O O := ⟨by kernel_rfl, by kernel_rfl⟩
theorem k_a6 : GdOk (g_a6 M M2 O O2 h e z x) M M2 O O2 := ⟨by kernel_rfl, by kernel_rfl⟩
theorem k_a7 : GdOk (g_a7 M M2 O h e g s z) M M2 O O := ⟨by kernel_rfl, by kernel_rfl⟩
theorem k_a8 : GdOk (g_a8 M M2 O O2 h e g z) M M2 O O2 := ⟨by kernel_rfl, by kernel_rfl⟩
end
end Go.Proofs.YtofbdgmknfbkfaaGreatDoor.nodesLife
namespace Go.Proofs.YtofbdgmknfbkfaaGreatDoor.nodesLife
open Go Go.Mini
/-! ### a Free's steps, a Make's, a Retire's, at canonical names -/
def nfF : AV := .func (.func 64) [] [.ptr 17 0]
def pshI : AV := .iface 82 (.ptr 16 0)
def cntI : AV := .iface 217 (.ptr 16 0)
def frO (z : Int) (d : AV) (line got : Nat) : AObj := .cells false [i64 z, d, i64 (Int.ofNat line), u8 got]
def moO (n : Nat) : AObj := .cells false [u32 n]
def psO (line h : Nat) (z : Int) : AObj := .cells false [i64 (Int.ofNat line), u64 h, i64 z]
def cnO (sg : Int) (n : Nat) (rd : Bool) : AObj := .cells false [u8 6, i64 sg, i64 1, u64 1, u64 n, .bool rd]
def fH (l : Nat) (z : Int) (g : Nat) (rd : Bool) (most : Nat) : List (Nat × AObj) := [(15, frO z hdrI l 0), (16, hdO z nfF g rd 0), (17, moO most)]
def fP (l p h : Nat) (z : Int) : List (Nat × AObj) := [(15, frO z pshI l 0), (16, psO p h z)]
def fC (l got : Nat) (z sg : Int) (n : Nat) (rd : Bool) : List (Nat × AObj) := [(15, frO z cntI l got), (16, cnO sg n rd)]
def sRow (z : Int) (k v : Nat) : List AV := [u8 9, i64 z, i64 (Int.ofNat (5 + k)), u64 v]
def mkB (z : Int) (o n : Nat) : List (Nat × AObj) := [(15, .cells false [.slice 16 o n n]), (16, .cells false (sRow z 0 1 ++ (sRow z 1 2 ++ sRow z 2 0)))]
def goO (thr most : Nat) (sc : AV) : AObj := .cells false [.ptr 10 0, i64 (Int.ofNat thr), i64 0, u32 most, .ptr 19 0, sc]
def rtO (l : Nat) (z : Int) (g b e r : Nat) : AObj := .cells false [.ptr 10 0, i64 (Int.ofNat l), i64 z, u32 g, .bool false, u64 b, u64 e, u64 r]
def rtB (thr most l : Nat) (z : Int) (g b e r : Nat) : List (Nat × AObj) := [(18, goO thr most .nilPtr), (19, rtO l z g b e r)]
def aG : List AV := [.ptr 18 0, .ptr 7 0]
def refA (z : Int) (g : Nat) : AV := .agg [i64 z, u32 g, .bool false]
section
variable (M M2 : PM) (O O2 : AObj) (h h2 t t3 e g g2 s n n2 most thr b r : Nat) (z x x2 sg : Int)
def g_f1 : GD := ⟨40, aA, fH 1 z 0 false most, fH 1 z g true most, [], [], .bool false, [.call 175 2 7 (u64 h) (tfL M2), .pure 175 2 8 G (.tuple [u8 s, u32 g])], [mld M O (9, z, 0) h M2, asrQ h s g]⟩
def g_f2y : GD := ⟨40, aA, fH 1 z g true most, fH 2 z g2 true most, [], [], .bool false, [.val 64 1 2 (.bool false), .val 64 3 1 (u32 g2), .pure 175 6 14 G (u64 h), .call 175 6 15 undefA (tfS M2 O2)],
  [vQ (.bool (decide (Int.ofNat g ≥ Int.ofNat most))) (.bool false), vQ (.int .u32 (Int.ofNat ((g + 1) % ((2 : Int) ^ IntKind.u32.bits).natAbs))) (u32 g2), hdrQ 0 g2 h, mst M O (9, z, 0) h M2 O2]⟩
def g_f2g : GD := ⟨40, aA, fH 1 z g true most, fC 1 0 z sg 0 false, [(16, 26)], [26], .bool false, [.val 64 1 2 (.bool true), .pure 175 6 14 G (u64 h), .call 175 6 15 undefA (tfS M2 O2), .val 67 1 1 (i64 sg)],
  [vQ (.bool (decide (Int.ofNat g ≥ Int.ofNat most))) (.bool true), hdrQ 4 g h, mst M O (9, z, 0) h M2 O2, vQ (.int .i64 (IntKind.i64.wrap (z.tdiv (Int.ofNat 8)))) (i64 sg)]⟩
def g_f3 : GD := ⟨40, aA, fH 2 z g true most, fP 1 1 0 z, [(16, 24)], [24], .bool false, [.val 26 1 1 (.bool false), .val 26 1 4 (.bool false), .val 67 1 1 (i64 sg), .call 40 5 6 (u64 1) (tfL M2)],
  [vQ (.bool (decide (z < 0))) (.bool false), vQ (.bool (decide (z ≥ 256))) (.bool false), vQ (.int .i64 (IntKind.i64.wrap (z.tdiv (Int.ofNat 8)))) (i64 sg), mld M O (6, sg, 0) 1 M2]⟩
def g_p1 : GD := ⟨40, aA, fP 1 1 h z, fP 1 2 h2 z, [], [], .bool false, [.call 89 1 3 (u64 h2) (tfL M2), .pure 89 2 4 G (.tuple [i64 x, u64 t])], [mld M O aF h2 M2, ashQ h2 x t]⟩
def g_p2 : GD := ⟨40, aA, fP 1 2 h z, fP 1 3 h z, [], [], .bool false, [.pure 52 0 5 G (.tuple [i64 x, u64 t]), .pure 52 1 7 G (u64 h2), .call 52 1 8 undefA (tfS M2 O2)], [ashQ h x t, headQ x 0 h2, mst M O (9, z, 2) h2 M2 O2]⟩
def g_p3 (d : Bool) (l p : Nat) : GD := ⟨40, aA, fP 1 3 h z, fP l p h z, [], [], .bool d, [.pure 93 1 4 G (.tuple [i64 x, u64 t]), .val 93 2 8 (u64 t3), .pure 93 2 9 G (u64 h2), .call 93 2 10 (.bool d) (tfS M2 O2)],
  [ashQ h x t, vQ (.int .u64 (Int.ofNat ((t + 1) % ((2 : Int) ^ IntKind.u64.bits).natAbs))) (u64 t3), headQ z t3 h2, mcs M O aF h h2 d M2 O2]⟩
def g_c1 : GD := ⟨40, aA, fC 1 0 z sg n false, fC 1 0 z sg n2 true, [], [], .bool false, [.call 182 2 7 (u64 n2) (tfL M2)], [mld M O (6, sg, 1) n2 M2]⟩
def g_c2 (d : Bool) (l got : Nat) : GD := ⟨40, aA, fC 1 0 z sg n true, fC l got z sg n false, [], [], .bool d, [.val 182 5 17 (u64 n2), .call 182 5 18 (.bool d) (tfS M2 O2)],
  [vQ (.int .u64 (Int.ofNat ((n + 1) % ((2 : Int) ^ IntKind.u64.bits).natAbs))) (u64 n2), mcs M O (6, sg, 1) n n2 d M2 O2]⟩
def g_mk (o m k v : Nat) (d : Bool) : GD := ⟨22, aA, mkB z o (m + 1), mkB z (o + 4) m, [], [], .bool d, [.call 22 3 15 undefA (tfS M2 O2)], [mst M O (9, z, Int.ofNat (5 + k)) v M2 O2]⟩
def g_r1 : GD := ⟨38, aG, rtB thr most 1 z g b e r, rtB thr most 2 z g b h r, [], [], .bool false, [.call 73 7 3 (u64 h) (tfL M2)], [mld M O aEp h M2]⟩
def g_r2 : GD := ⟨38, aG, rtB thr most 2 z g b e r, rtB thr most 3 z g b e h, [], [], .bool false, [.call 73 9 3 (u64 h) (tfL M2)], [mld M O aEra h M2]⟩
def g_r3 : GD := ⟨38, aG, rtB thr most 3 z g b e r, rtB thr most 4 z g h e r, [], [], .bool false, [.call 73 11 4 (u64 h) (tfL M2)], [mld M O (9, z, 1) h M2]⟩
def g_r4 : GD := ⟨38, aG, rtB thr most 4 z g b e r, rtB thr most 5 z g b e r, [], [], .bool false, [.call 73 13 7 undefA (tfS M2 O2)], [mst M O (9, z, 3) e M2 O2]⟩
def g_r5 : GD := ⟨38, aG, rtB thr most 5 z g b e r, rtB thr most 6 z g b e r, [], [], .bool false, [.call 73 15 7 undefA (tfS M2 O2)], [mst M O (9, z, 4) r M2 O2]⟩
def g_na : GD := ⟨33, [], [], bA 1 0 0, [(15, 25), (16, 24)], [24, 25], .ptr 25 0, [], []⟩
def g_nf : GD := ⟨35, [i64 z, u32 most], [], fH 1 z 0 false most, [(15, 26), (16, 25), (17, 24)], [24, 25, 26], .ptr 26 0, [.val 63 1 1 (.bool true), .val 63 1 4 (.bool true)], [vQ (.bool (decide (z ≥ 0))) (.bool true), vQ (.bool (decide (z < 256))) (.bool true)]⟩
def g_nm : GD := ⟨21, [refA z g, u64 1, u64 2], [], mkB z 0 3, [(15, 29), (16, 28)], [28, 29], .ptr 29 0, [.val 41 1 1 (.bool true), .val 41 1 4 (.bool true)], [vQ (.bool (decide (z ≥ 0))) (.bool true), vQ (.bool (decide (z < 256))) (.bool true)]⟩
end
section
variable (M M2 : PM) (O O2 : AObj) (h h2 t t3 e g g2 s n n2 most thr b r : Nat) (z x x2 sg : Int)
theorem k_f1 : GdOk (g_f1 M M2 O h g s most z) M M2 O O := ⟨by kernel_rfl, by kernel_rfl⟩
theorem k_f2y : GdOk (g_f2y M M2 O O2 h g g2 most z) M M2 O O2 := ⟨by kernel_rfl, by kernel_rfl⟩
theorem k_f2g : GdOk (g_f2g M M2 O O2 h g most z sg) M M2 O O2 := ⟨by kernel_rfl, by kernel_rfl⟩
theorem k_f3 : GdOk (g_f3 M M2 O g most z sg) M M2 O O := ⟨by kernel_rfl, by kernel_rfl⟩
theorem k_p1 : GdOk (g_p1 M M2 O h h2 t z x) M M2 O O := ⟨by kernel_rfl, by kernel_rfl⟩
theorem k_p2 : GdOk (g_p2 M M2 O O2 h h2 t z x) M M2 O O2 := ⟨by kernel_rfl, by kernel_rfl⟩
theorem k_p3y : GdOk (g_p3 M M2 O O2 h h2 t t3 z x true 0 0) M M2 O O2 := ⟨by kernel_rfl, by kernel_rfl⟩
theorem k_p3n : GdOk (g_p3 M M2 O O2 h h2 t t3 z x false 1 1) M M2 O O2 := ⟨by kernel_rfl, by kernel_rfl⟩
theorem k_c1 : GdOk (g_c1 M M2 O n n2 z sg) M M2 O O := ⟨by kernel_rfl, by kernel_rfl⟩
theorem k_c2y : GdOk (g_c2 M M2 O O2 n n2 z sg true 0 4) M M2 O O2 := ⟨by kernel_rfl, by kernel_rfl⟩
theorem k_c2n : GdOk (g_c2 M M2 O O2 n n2 z sg false 1 0) M M2 O O2 := ⟨by kernel_rfl, by kernel_rfl⟩
theorem k_mk0 : GdOk (g_mk M M2 O O2 z 0 2 0 1 false) M M2 O O2 := ⟨by kernel_rfl, by kernel_rfl⟩
theorem k_mk1 : GdOk (g_mk M M2 O O2 z 4 1 1 2 false) M M2 O O2 := ⟨by kernel_rfl, by kernel_rfl⟩
theorem k_mk2 : GdOk (g_mk M M2 O O2 z 8 0 2 0 true) M M2 O O2 := ⟨by kernel_rfl, by kernel_rfl⟩
theorem k_r1 : GdOk (g_r1 M M2 O h e g most thr b r z) M M2 O O := ⟨by kernel_rfl, by kernel_rfl⟩
theorem k_r2 : GdOk (g_r2 M M2 O h e g most thr b r z) M M2 O O := ⟨by kernel_rfl, by kernel_rfl⟩
theorem k_r3 : GdOk (g_r3 M M2 O h e g most thr b r z) M M2 O O := ⟨by kernel_rfl, by kernel_rfl⟩
theorem k_r4 : GdOk (g_r4 M M2 O O2 e g most thr b r z) M M2 O O2 := ⟨by kernel_rfl, by kernel_rfl⟩
theorem k_r5 : GdOk (g_r5 M M2 O O2 e g most thr b r z) M M2 O O2 := ⟨by kernel_rfl, by kernel_rfl⟩
theorem k_na : GdOk g_na M M O O := ⟨by kernel_rfl, by kernel_rfl⟩
theorem k_nf : GdOk (g_nf most z) M M O O := ⟨by kernel_rfl, by kernel_rfl⟩
theorem k_nm : GdOk (g_nm g z) M M O O := ⟨by kernel_rfl, by kernel_rfl⟩
end
end Go.Proofs.YtofbdgmknfbkfaaGreatDoor.nodesLife
namespace Go.Proofs.YtofbdgmknfbkfaaGreatDoor.nodesLife
open Go Go.Mini
/-! ### the phase's word, and the scheme by which a scan goes -/
theorem wph_y (a : Nat) : runX Tryz.prog none_ 50 55 (.call 55 [.int .u8 (Int.ofNat a)] (startS Tryz.prog [])) [.val 55 1 1 (.bool true)] = some ({ e := .ret, ts := [.int .u8 (Int.ofNat 0)], s := { h := { bs := [], len := 0, esc := none, wr := [] }, nx := 2 } }, [], [.val (some (.bool (decide (Int.ofNat a > 3)))) (.bool true)]) := by kernel_rfl
theorem wph_n (a : Nat) : runX Tryz.prog none_ 50 55 (.call 55 [.int .u8 (Int.ofNat a)] (startS Tryz.prog [])) [.val 55 1 1 (.bool false)] = some ({ e := .ret, ts := [.int .u8 (Int.ofNat a)], s := { h := { bs := [], len := 0, esc := none, wr := [] }, nx := 2 } }, [], [.val (some (.bool (decide (Int.ofNat a > 3)))) (.bool false)]) := by kernel_rfl
theorem asph_run (w a z b c n : Nat) : runX Tryz.prog none_ 50 114 (.call 114 [.int .u64 (Int.ofNat w)] (startS Tryz.prog G)) [.val 124 1 9 (.int .u8 (Int.ofNat a)), .call 114 1 2 (.int .u8 (Int.ofNat z)) id, .val 125 1 9 (.int .u8 (Int.ofNat b)), .val 125 1 9 (.int .u8 (Int.ofNat c)), .val 109 1 8 (.int .u64 (Int.ofNat n))] = some ({ e := .ret, ts := [.agg [.int .u8 (Int.ofNat z), .int .u8 (Int.ofNat b), .int .u8 (Int.ofNat c), .int .u64 (Int.ofNat n)]], s := { h := { bs := [(1, .cells true wf)], len := 1, esc := none, wr := [] }, nx := 3 } }, [], [.val (some (.int .u8 (Int.ofNat ((match BinOp.and with | BinOp.and => BitVec.ofInt IntKind.u64.bits ((Int.ofNat w).fdiv (2 ^ min (Int.toNat 0) IntKind.u64.bits)) &&& BitVec.ofInt IntKind.u64.bits (IntKind.u64.wrap (IntKind.u64.wrap (1 * 2 ^ min (Int.toNat 3) IntKind.u64.bits) - 1)) | BinOp.or => BitVec.ofInt IntKind.u64.bits ((Int.ofNat w).fdiv (2 ^ min (Int.toNat 0) IntKind.u64.bits)) ||| BitVec.ofInt IntKind.u64.bits (IntKind.u64.wrap (IntKind.u64.wrap (1 * 2 ^ min (Int.toNat 3) IntKind.u64.bits) - 1)) | BinOp.xor => BitVec.ofInt IntKind.u64.bits ((Int.ofNat w).fdiv (2 ^ min (Int.toNat 0) IntKind.u64.bits)) ^^^ BitVec.ofInt IntKind.u64.bits (IntKind.u64.wrap (IntKind.u64.wrap (1 * 2 ^ min (Int.toNat 3) IntKind.u64.bits) - 1)) | _ => BitVec.ofInt IntKind.u64.bits ((Int.ofNat w).fdiv (2 ^ min (Int.toNat 0) IntKind.u64.bits)) &&& ~~~BitVec.ofInt IntKind.u64.bits (IntKind.u64.wrap (IntKind.u64.wrap (1 * 2 ^ min (Int.toNat 3) IntKind.u64.bits) - 1))).toNat % ((2 : Int) ^ IntKind.u64.bits).natAbs % ((2 : Int) ^ IntKind.u8.bits).natAbs)))) (.int .u8 (Int.ofNat a)), .snd (.call 55 [.int .u8 (Int.ofNat a)] { h := { bs := [(2, .cells false [.int .u8 (Int.ofNat 0), .int .u8 (Int.ofNat 0), .int .u8 (Int.ofNat 0), .int .u64 (Int.ofNat 0)]), (1, .cells true wf)], len := 2, esc := none, wr := [] }, nx := 3 }) { e := .ret, ts := [.int .u8 (Int.ofNat z)], s := { h := { bs := [(2, .cells false [.int .u8 (Int.ofNat 0), .int .u8 (Int.ofNat 0), .int .u8 (Int.ofNat 0), .int .u64 (Int.ofNat 0)]), (1, .cells true wf)], len := 2, esc := none, wr := [] }, nx := 3 } }, .val (some (.int .u8 (Int.ofNat ((match BinOp.and with | BinOp.and => BitVec.ofInt IntKind.u64.bits ((Int.ofNat w).fdiv (2 ^ min (Int.toNat 3) IntKind.u64.bits)) &&& BitVec.ofInt IntKind.u64.bits (IntKind.u64.wrap (IntKind.u64.wrap (1 * 2 ^ min (Int.toNat 3) IntKind.u64.bits) - 1)) | BinOp.or => BitVec.ofInt IntKind.u64.bits ((Int.ofNat w).fdiv (2 ^ min (Int.toNat 3) IntKind.u64.bits)) ||| BitVec.ofInt IntKind.u64.bits (IntKind.u64.wrap (IntKind.u64.wrap (1 * 2 ^ min (Int.toNat 3) IntKind.u64.bits) - 1)) | BinOp.xor => BitVec.ofInt IntKind.u64.bits ((Int.ofNat w).fdiv (2 ^ min (Int.toNat 3) IntKind.u64.bits)) ^^^ BitVec.ofInt IntKind.u64.bits (IntKind.u64.wrap (IntKind.u64.wrap (1 * 2 ^ min (Int.toNat 3) IntKind.u64.bits) - 1)) | _ => BitVec.ofInt IntKind.u64.bits ((Int.ofNat w).fdiv (2 ^ min (Int.toNat 3) IntKind.u64.bits)) &&& ~~~BitVec.ofInt IntKind.u64.bits (IntKind.u64.wrap (IntKind.u64.wrap (1 * 2 ^ min (Int.toNat 3) IntKind.u64.bits) - 1))).toNat % ((2 : Int) ^ IntKind.u64.bits).natAbs % ((2 : Int) ^ IntKind.u8.bits).natAbs)))) (.int .u8 (Int.ofNat b)), .val (some (.int .u8 (Int.ofNat ((match BinOp.and with | BinOp.and => BitVec.ofInt IntKind.u64.bits ((Int.ofNat w).fdiv (2 ^ min (Int.toNat 6) IntKind.u64.bits)) &&& BitVec.ofInt IntKind.u64.bits (IntKind.u64.wrap (IntKind.u64.wrap (1 * 2 ^ min (Int.toNat 3) IntKind.u64.bits) - 1)) | BinOp.or => BitVec.ofInt IntKind.u64.bits ((Int.ofNat w).fdiv (2 ^ min (Int.toNat 6) IntKind.u64.bits)) ||| BitVec.ofInt IntKind.u64.bits (IntKind.u64.wrap (IntKind.u64.wrap (1 * 2 ^ min (Int.toNat 3) IntKind.u64.bits) - 1)) | BinOp.xor => BitVec.ofInt IntKind.u64.bits ((Int.ofNat w).fdiv (2 ^ min (Int.toNat 6) IntKind.u64.bits)) ^^^ BitVec.ofInt IntKind.u64.bits (IntKind.u64.wrap (IntKind.u64.wrap (1 * 2 ^ min (Int.toNat 3) IntKind.u64.bits) - 1)) | _ => BitVec.ofInt IntKind.u64.bits ((Int.ofNat w).fdiv (2 ^ min (Int.toNat 6) IntKind.u64.bits)) &&& ~~~BitVec.ofInt IntKind.u64.bits (IntKind.u64.wrap (IntKind.u64.wrap (1 * 2 ^ min (Int.toNat 3) IntKind.u64.bits) - 1))).toNat % ((2 : Int) ^ IntKind.u64.bits).natAbs % ((2 : Int) ^ IntKind.u8.bits).natAbs)))) (.int .u8 (Int.ofNat c)), .val (some (.int .u64 (Int.ofNat ((match BinOp.and with | BinOp.and => BitVec.ofInt IntKind.u64.bits ((Int.ofNat w).fdiv (2 ^ min (Int.toNat 16) IntKind.u64.bits)) &&& BitVec.ofInt IntKind.u64.bits (IntKind.u64.wrap (IntKind.u64.wrap (1 * 2 ^ min (Int.toNat 48) IntKind.u64.bits) - 1)) | BinOp.or => BitVec.ofInt IntKind.u64.bits ((Int.ofNat w).fdiv (2 ^ min (Int.toNat 16) IntKind.u64.bits)) ||| BitVec.ofInt IntKind.u64.bits (IntKind.u64.wrap (IntKind.u64.wrap (1 * 2 ^ min (Int.toNat 48) IntKind.u64.bits) - 1)) | BinOp.xor => BitVec.ofInt IntKind.u64.bits ((Int.ofNat w).fdiv (2 ^ min (Int.toNat 16) IntKind.u64.bits)) ^^^ BitVec.ofInt IntKind.u64.bits (IntKind.u64.wrap (IntKind.u64.wrap (1 * 2 ^ min (Int.toNat 48) IntKind.u64.bits) - 1)) | _ => BitVec.ofInt IntKind.u64.bits ((Int.ofNat w).fdiv (2 ^ min (Int.toNat 16) IntKind.u64.bits)) &&& ~~~BitVec.ofInt IntKind.u64.bits (IntKind.u64.wrap (IntKind.u64.wrap (1 * 2 ^ min (Int.toNat 48) IntKind.u64.bits) - 1))).toNat % ((2 : Int) ^ IntKind.u64.bits).natAbs)))) (.int .u64 (Int.ofNat n))]) := by kernel_rfl
def phC (a b c n : Nat) : List AV := [.int .u8 (Int.ofNat a), .int .u8 (Int.ofNat b), .int .u8 (Int.ofNat c), .int .u64 (Int.ofNat n)]
def cz (a : Nat) : Nat := if 3 < a then 0 else a
theorem wph_call (a : Nat) (s : AS) : Sound Tryz.prog (.call 55 [.int .u8 (Int.ofNat a)] s) ⟨.ret, [.int .u8 (Int.ofNat (cz a))], s⟩ := by
  unfold cz
  by_cases h : 3 < a
  · rw [if_pos h]
    exact Sound.pure (G := []) (runX_sound mixed none_sound (wph_y a) ⟨by simp [Qst.ok]; omega, trivial⟩) rfl rfl rfl rfl
  · rw [if_neg h]
    exact Sound.pure (G := []) (runX_sound mixed none_sound (wph_n a) ⟨by simp [Qst.ok]; omega, trivial⟩) rfl rfl rfl rfl
def asp (w : Nat) : AV := .agg (phC (cz (w % 8)) (w / 8 % 8) (w / 64 % 8) (w / 65536 % 281474976710656))
theorem asp_call (w : Nat) (hw : w < 18446744073709551616) (s : AS) (hG : hasG s G = true) : Sound Tryz.prog (.call 114 [.int .u64 (Int.ofNat w)] s) ⟨.ret, [asp w], s⟩ := by
  have h1 := w_take w 0 3 hw (by omega) (by omega) .u8 256 nat8 (by omega)
  have h2 := w_take w 3 3 hw (by omega) (by omega) .u8 256 nat8 (by omega)
  have h3 := w_take w 6 3 hw (by omega) (by omega) .u8 256 nat8 (by omega)
  have h4 := w_take64 w 16 48 hw (by omega) (by omega)
  rw [show w / 2 ^ 0 % 2 ^ 3 = w % 8 from by simp] at h1
  exact Sound.pure (G := G) (runX_sound mixed none_sound (asph_run w (w % 8) (cz (w % 8)) (w / 8 % 8) (w / 64 % 8) (w / 65536 % 281474976710656)) ⟨h1, wph_call _ _, h2, h3, h4, trivial⟩) (by kernel_rfl) rfl rfl hG
theorem by_y (a b c n : Nat) : (runX Tryz.prog none_ 50 113 (.call 113 [.agg (phC a b c n)] (startS Tryz.prog [])) [.val 113 1 2 (.bool true)]).map (fun x => (x.1.ts, x.2.2)) = some ([u8 c], [.val (some (.bool (decide (Int.ofNat a = Int.ofNat 3)))) (.bool true)]) := by kernel_rfl
theorem by_n (a b c n : Nat) : (runX Tryz.prog none_ 50 113 (.call 113 [.agg (phC a b c n)] (startS Tryz.prog [])) [.val 113 1 2 (.bool false)]).map (fun x => (x.1.ts, x.2.2)) = some ([u8 b], [.val (some (.bool (decide (Int.ofNat a = Int.ofNat 3)))) (.bool false)]) := by kernel_rfl
theorem by_q (w : Nat) : (Qst.pure [] 113 [asp w] (u8 (byW w))).ok Tryz.prog := by
  unfold byW asp cz
  by_cases h : w % 8 = 3
  · rw [if_pos h, h]
    exact pure0 (by_y 3 _ _ _) ⟨rfl, trivial⟩ rfl rfl rfl
  · rw [if_neg h]
    refine pure0 (by_n _ _ _ _) ⟨?_, trivial⟩ rfl rfl rfl
    show some (AV.bool (decide (Int.ofNat _ = Int.ofNat 3))) = some (.bool false)
    congr 2
    refine decide_eq_false fun e => h ?_
    have e : (if 3 < w % 8 then 0 else w % 8) = 3 := Int.ofNat.inj e
    split at e
    · cases e
    · exact e
end Go.Proofs.YtofbdgmknfbkfaaGreatDoor.nodesLife
namespace Go.Mini
open Go Go.RowKit Go.Mini.Fast
/-! ### a run of code that jumps, once, to a label behind it -/
section
variable (P : Program) (hk : Task → Option Res) (n f : Nat)
def runG : Nat → Code → List AV → AS → List Dec → Option (Res × List Dec × List Qst)
  | 0, _, _, _, _ => none
  | k + 1, c, ts, s, ds => match c with
    | .seq a b => match runG k a ts s ds with
      | some (⟨.normal, ts', s'⟩, ds', q) => match runG k b ts' s' ds' with
        | some (r, ds'', q') => some (r, ds'', q ++ q')
        | none => none
      | r => r
    | .cond o a b => match evA P ts o with
      | some (.bool true) => runG k a ts s ds
      | some (.bool false) => runG k b ts s ds
      | _ => none
    | .block id c => match runG k c ts s ds with
      | some (⟨.exit id', ts', s'⟩, ds', q) => if Nat.beq id' id then some (⟨.normal, ts', s'⟩, ds', q) else some (⟨.exit id', ts', s'⟩, ds', q)
      | r => r
    | .scope c => match runG k c ts s ds with
      | some (⟨.goto l, ts', s'⟩, ds', q) => match findLabel c l with
        | some b => match runX P hk n f (.code b ts' s') ds' with
          | some (r, ds'', q') => some (r, ds'', q ++ q')
          | none => none
        | none => none
      | r => r
    | .goto l => some (⟨.goto l, ts, s⟩, ds, [])
    | c => runX P hk n f (.code c ts s) ds
end
section
variable {P : Program} {hk : Task → Option Res} {n f : Nat}
theorem condC {o : Operand} {x y : Code} {ts : List AV} {s : AS} {b : Bool} {r : Res} (h : evA P ts o = some (.bool b)) (hr : SoundC P (bif b then x else y) ts s r) : SoundC P (.cond o x y) ts s r := by
  intro B ρ a w R ht
  have := evA_rel R.glob ht h
  rw [vrel_bool] at this
  cases b with
  | true => exact wp_cond_true this (hr B ρ a w R ht)
  | false => exact wp_cond_false this (hr B ρ a w R ht)
theorem gotoC {l : Nat} {ts : List AV} {s : AS} : SoundC P (.goto l) ts s ⟨.goto l, ts, s⟩ := fun _ ρ _ _ R ht => wp_goto ⟨rfl, ρ, ht, .refl R⟩
theorem runG_ok (hm : P.follows .mixedOrders = true) (hh : ∀ t r, hk t = some r → Sound P t r) : ∀ k c ts s ds r ds' q, runG P hk n f k c ts s ds = some (r, ds', q) → Qsts P q → SoundC P c ts s r
  | 0, _, _, _, _, _, _, _, h, _ => by simp [runG] at h
  | k + 1, c, ts, s, ds, r, ds', q, h, hq => by
    have ih := runG_ok hm hh k
    have leaf : ∀ {c : Code}, runX P hk n f (.code c ts s) ds = some (r, ds', q) → SoundC P c ts s r := fun h => (runX_sound hm hh h hq).2
    cases c with
    | seq a b =>
      simp only [runG] at h
      split at h
      · rename_i ts1 s1 ds1 q1 h1
        split at h
        case h_2 => simp at h
        rename_i r2 ds2 q2 h2
        simp only [Option.some.injEq, Prod.mk.injEq] at h
        obtain ⟨rfl, rfl, rfl⟩ := h
        rw [qsts_app] at hq
        exact seq_nextC (ih _ _ _ _ _ _ _ h1 hq.1) (ih _ _ _ _ _ _ _ h2 hq.2)
      · rename_i hne
        refine seq_stopC (ih _ _ _ _ _ _ _ h hq) (fun e => ?_)
        obtain ⟨e', ts1, s1⟩ := r
        simp only at e
        subst e
        exact hne _ _ _ _ h
    | cond o a b =>
      simp only [runG] at h
      split at h
      · rename_i h1
        exact condC h1 (ih _ _ _ _ _ _ _ h hq)
      · rename_i h1
        exact condC h1 (ih _ _ _ _ _ _ _ h hq)
      · simp at h
    | block id c =>
      simp only [runG] at h
      split at h
      · rename_i id' ts1 s1 ds1 q1 h1
        split at h
        · rename_i hid
          simp only [Option.some.injEq, Prod.mk.injEq] at h
          obtain ⟨rfl, rfl, rfl⟩ := h
          have := ih _ _ _ _ _ _ _ h1 hq
          rw [Nat.eq_of_beq_eq_true hid] at this
          exact block_exitC this
        · rename_i hid
          simp only [Option.some.injEq, Prod.mk.injEq] at h
          obtain ⟨rfl, rfl, rfl⟩ := h
          refine block_pastC (ih _ _ _ _ _ _ _ h1 hq) (fun e => ?_)
          simp only [AExit.exit.injEq] at e
          exact hid (by rw [e]; exact Nat.beq_refl _)
      · rename_i hne
        refine block_pastC (ih _ _ _ _ _ _ _ h hq) (fun e => ?_)
        obtain ⟨e', ts1, s1⟩ := r
        simp only at e
        subst e
        exact hne _ _ _ _ _ h
    | scope c =>
      simp only [runG] at h
      split at h
      · rename_i l ts1 s1 ds1 q1 h1
        split at h
        case h_2 => simp at h
        rename_i b hb
        split at h
        case h_2 => simp at h
        rename_i r2 ds2 q2 h2
        simp only [Option.some.injEq, Prod.mk.injEq] at h
        obtain ⟨rfl, rfl, rfl⟩ := h
        rw [qsts_app] at hq
        have := runX_sound hm hh h2 hq.2
        exact jumpC hb (ih _ _ _ _ _ _ _ h1 hq.1) this.2 this.1
      · rename_i hne
        refine scopeC (ih _ _ _ _ _ _ _ h hq) (fun l e => ?_)
        obtain ⟨e', ts1, s1⟩ := r
        simp only at e
        subst e
        exact hne _ _ _ _ _ h
    | goto l =>
      simp only [runG, Option.some.injEq, Prod.mk.injEq] at h
      obtain ⟨rfl, rfl, rfl⟩ := h
      exact gotoC
    | region id ops d => exact leaf h
    | loop c => exact leaf h
    | skip => exact leaf h
    | label l => exact leaf h
    | exit id => exact leaf h
    | ret => exact leaf h
    | rangeFunc => exact leaf h
    | refuse => exact leaf h
/-- A call whose body is run so. -/
theorem callG (hm : P.follows .mixedOrders = true) (hh : ∀ t r, hk t = some r → Sound P t r) {g k : Nat} {fn : Func} {c : Code} {args ts vs : List AV} {bs : List (Nat × AObj)} {len nx : Nat} {s' : AS} {ds ds' : List Dec} {q : List Qst} (hf : P.funcs[g]? = some fn) (hb : fn.body = some c)
    (h : runG P hk n f k c (args ++ List.replicate (fn.ntmps - args.length) undefA) ⟨⟨bs, len, none, []⟩, nx⟩ ds = some (⟨.ret, ts, s'⟩, ds', q)) (hq : Qsts P q) (hvs : resultsA P ts s' fn.results.toList = some vs) : Sound P (.call g args ⟨⟨bs, len, none, []⟩, nx⟩) ⟨.ret, [oneOrTuple vs], s'⟩ :=
  call_whole hf hb ((runG_ok hm hh k _ _ _ _ _ _ _ h hq).sound (fun _ h => by cases h)) (.inr rfl) hvs
end
section
variable (P : Program) (hk : Task → Option Res)
/-- A call, run so. -/
def runGF (n k g : Nat) (args : List AV) (s : AS) (ds : List Dec) : Option (Res × List Dec × List Qst) := match P.funcs[g]? with
  | some fn => match fn.body with
    | some c => match runG P hk n g k c (args ++ List.replicate (fn.ntmps - args.length) undefA) ⟨⟨s.h.bs, s.h.len, none, []⟩, s.nx⟩ ds with
      | some (⟨.ret, ts, s'⟩, ds', q) => match resultsA P ts s' fn.results.toList with
        | some vs => some (⟨.ret, [oneOrTuple vs], s'⟩, ds', q)
        | none => none
      | _ => none
    | none => none
  | none => none
end
theorem runGF_ok {P : Program} {hk : Task → Option Res} (hm : P.follows .mixedOrders = true) (hh : ∀ t r, hk t = some r → Sound P t r) {n k g : Nat} {args : List AV} {s : AS} {r : Res} {ds ds' : List Dec} {q : List Qst} (h : runGF P hk n k g args s ds = some (r, ds', q)) (hq : Qsts P q) :
    Sound P (.call g args ⟨⟨s.h.bs, s.h.len, none, []⟩, s.nx⟩) r := by
  unfold runGF at h
  split at h
  case h_2 => simp at h
  rename_i fn hf
  split at h
  case h_2 => simp at h
  rename_i c hb
  split at h
  case h_2 => simp at h
  rename_i ts s' ds1 q1 h1
  split at h
  case h_2 => simp at h
  rename_i vs hvs
  simp only [Option.some.injEq, Prod.mk.injEq] at h
  obtain ⟨rfl, rfl, rfl⟩ := h
  exact callG hm hh hf hb h1 hq hvs
end Go.Mini
namespace Go.Proofs.YtofbdgmknfbkfaaGreatDoor.nodesLife
open Go Go.Mini
/-! ### the scan's parts, at canonical names -/
noncomputable def GD.runJ (g : GD) (O7 O8 : AObj) : Option (Res × List Dec × List Qst) := runGF Tryz.prog none_ 60 40 g.f g.args (canF ((7, O7) :: (8, O8) :: g.C) GF (g.C.length + 4) 24) g.decs
noncomputable def GD.LJ (g : GD) (O7 O8 : AObj) : Option LK := match g.runJ O7 O8 with
  | some x => some (g.lk x)
  | none => none
noncomputable def GD.RJ (g : GD) (O7 O8 P7 P8 : AObj) : Option LK := match g.runJ O7 O8 with
  | some x => some (g.want P7 P8 x)
  | none => some ([], (none, none), [], true, [], [])
def GdOkJ (g : GD) (M M2 : PM) (O O2 : AObj) : Prop := g.LJ (mo7 M) O = g.RJ (mo7 M) O (mo7 M2) O2 ∧ g.stat = true
def advO (line e k al : Nat) (mv : Bool) : AObj := .cells false [i64 (Int.ofNat line), u64 e, i64 (Int.ofNat k), i64 (Int.ofNat al), .bool mv]
def bmpO (left e : Nat) (mv : Bool) : AObj := .cells false [i64 (Int.ofNat left), u64 e, .bool mv]
def ldO (kd w : Nat) : AObj := .cells false [u8 kd, u64 w]
def tkO (f : AV) (sn : AV) (k al : Nat) : AObj := .cells false [f, sn, u64 0, i64 (Int.ofNat k), i64 0, i64 (Int.ofNat al)]
def tkB : AV := .func (.func 129) [.ptr 15 0] []
def tkW : AV := .func (.func 136) [.ptr 15 0] []
def Z40 : List AV := List.replicate 40 (u64 0)
def scO (most : Nat) (now : AV) (y m : Nat) (sn gs fr : AV) : AObj := .cells false [.ptr 10 0, u32 most, now, u8 y, i64 (Int.ofNat m), sn, u64 0, gs, fr]
def gdO (th : Nat) : AObj := .cells false [.bool false, u8 0, u64 0, u64 0, u64 0, u64 0, .bool true, i64 (Int.ofNat th), .ptr 11 0]
def liO (n : Nat) : AObj := .cells false [.osl 12 0 n 6, .map 13]
def nLd : AV := .iface 213 (.ptr 15 0)
def nAd : AV := .iface 228 (.ptr 15 0)
def nBu : AV := .iface 231 (.ptr 15 0)
def nTk : AV := .iface 233 (.ptr 15 0)
def nFr : AV := .iface 53 (.ptr 15 0)
def aN : List AV := [.ptr 9 0]
section
variable (M M2 : PM) (O O2 : AObj) (h e e2 k k2 m y th most n : Nat) (d : Bool) (p : AV)
def g_l (kd : Nat) (a : A3) : GD := ⟨181, aA, [(15, ldO kd 0)], [(15, ldO kd h)], [], [], .bool true, [.call 181 1 7 (u64 h) (tfL M2)], [mld M O a h M2]⟩
def g_v1 : GD := ⟨184, aA, [(15, advO 1 0 0 0 false)], [(15, advO 2 h 0 0 false)], [], [], .bool false, [.call 184 5 4 (u64 h) (tfL M2)], [mld M O aEp h M2]⟩
def g_v2 : GD := ⟨184, aA, [(15, advO 2 e 0 0 false)], [(15, advO 3 e 0 4 false)], [], [], .bool false, [.call 184 7 3 (u64 1) (tfL M2)], [mld M O aBl 1 M2]⟩
def g_v3 (i l : Nat) : GD := ⟨184, aA, [(15, advO 3 e i 4 false)], [(15, advO l e (i + 1) 4 false)], [], [], .bool false, [.call 184 10 6 (u64 0) (tfL M2)], [mld M O (8, Int.ofNat i, 3) 0 M2]⟩
def g_v4 : GD := ⟨184, aA, [(15, advO 4 e 4 4 false)], [(15, advO 0 e 4 4 d)], [], [], .bool true, [.val 184 15 13 (u64 e2), .call 184 15 14 (.bool d) (tfS M2 O2)],
  [vQ (.int .u64 (Int.ofNat ((e + 1) % ((2 : Int) ^ IntKind.u64.bits).natAbs))) (u64 e2), mcs M O aEp e e2 d M2 O2]⟩
def g_w1 : GD := ⟨191, aA, [(15, bmpO 2 0 false)], [(15, bmpO 1 h false)], [], [], .bool false, [.call 191 5 3 (u64 h) (tfL M2)], [mld M O aEra h M2]⟩
def g_w2 : GD := ⟨191, aA, [(15, bmpO 1 e false)], [(15, bmpO 0 e d)], [], [], .bool true, [.val 191 1 11 (u64 e2), .call 191 1 12 (.bool d) (tfS M2 O2)],
  [vQ (.int .u64 (Int.ofNat ((e + 1) % ((2 : Int) ^ IntKind.u64.bits).natAbs))) (u64 e2), mcs M O aEra e e2 d M2 O2]⟩
def g_t1 : GD := ⟨195, aA, [(15, tkO tkB .nilSlice 0 0)], [(15, tkO tkW (.slice 14 0 4 4) 0 4), (14, .cells false Z40)], [(14, 24)], [24], .bool false, [.call 129 0 3 (u64 1) (tfL M2)], [mld M O aBl 1 M2]⟩
def g_t2 (i : Nat) (f : AV) (d : Bool) : GD := ⟨195, aA, [(15, tkO tkW (.slice 14 0 4 4) i 4), (14, .cells false Z40)], [(15, tkO f (.slice 14 0 4 4) (i + 1) 4), (14, .cells false Z40)], [], [], .bool d, [.call 136 1 15 (u64 0) (tfL M2)], [mld M O (8, Int.ofNat i, 0) 0 M2]⟩
def g_n1 : GD := ⟨102, aN, [(9, scO most nLd 0 0 .nilSlice .nilSlice .nilSlice), (10, gdO th), (11, liO n), (15, ldO 3 h)], [(9, scO most nAd y n .nilSlice .nilSlice .nilSlice), (10, gdO th), (11, liO n), (15, advO 1 0 0 0 false)], [(15, 24)], [24], .tuple [],
  [.pure 102 4 6 G p, .pure 102 4 7 [] (u8 y)], [.fix (.pure G 114 [u64 h] p), .fix (.pure [] 113 [p] (u8 y))]⟩
def g_n2 : GD := ⟨102, aN, [(9, scO most nAd y m .nilSlice .nilSlice .nilSlice), (15, advO 0 e 4 4 d)], [(9, scO most nBu y m .nilSlice .nilSlice .nilSlice), (15, bmpO 2 0 false)], [(15, 24)], [24], .tuple [], [], []⟩
def g_n3 : GD := ⟨102, aN, [(9, scO most nBu y m .nilSlice .nilSlice .nilSlice), (15, bmpO 0 e d)], [(9, scO most nTk y m .nilSlice .nilSlice .nilSlice), (15, tkO tkB .nilSlice 0 0)], [(15, 24)], [24], .tuple [], [], []⟩
def g_n4 : GD := ⟨102, aN, [(9, scO most nTk y m .nilSlice .nilSlice .nilSlice), (15, tkO .nilFunc (.slice 14 0 4 4) 4 4), (14, .cells false Z40)], [(9, scO most nLd y m (.slice 14 0 4 4) .nilSlice .nilSlice), (15, ldO 1 0), (14, .cells false Z40)], [(15, 28), (14, 27)], [27, 28], .tuple [], [], []⟩
end
section
variable (M M2 : PM) (O O2 : AObj) (h e e2 k k2 m y th most n : Nat) (d : Bool) (p : AV)
theorem k_l3 : GdOk (g_l M M2 O h 3 aPh) M M2 O O := ⟨by kernel_rfl, by kernel_rfl⟩
theorem k_l1 : GdOk (g_l M M2 O h 1 aEp) M M2 O O := ⟨by kernel_rfl, by kernel_rfl⟩
theorem k_v1 : GdOkJ (g_v1 M M2 O h) M M2 O O := ⟨by kernel_rfl, by kernel_rfl⟩
theorem k_v2 : GdOkJ (g_v2 M M2 O e) M M2 O O := ⟨by kernel_rfl, by kernel_rfl⟩
theorem k_v30 : GdOkJ (g_v3 M M2 O e 0 3) M M2 O O := ⟨by kernel_rfl, by kernel_rfl⟩
theorem k_v31 : GdOkJ (g_v3 M M2 O e 1 3) M M2 O O := ⟨by kernel_rfl, by kernel_rfl⟩
theorem k_v32 : GdOkJ (g_v3 M M2 O e 2 3) M M2 O O := ⟨by kernel_rfl, by kernel_rfl⟩
theorem k_v33 : GdOkJ (g_v3 M M2 O e 3 4) M M2 O O := ⟨by kernel_rfl, by kernel_rfl⟩
theorem k_v4 : GdOkJ (g_v4 M M2 O O2 e e2 d) M M2 O O2 := ⟨by kernel_rfl, by kernel_rfl⟩
theorem k_w1 : GdOk (g_w1 M M2 O h) M M2 O O := ⟨by kernel_rfl, by kernel_rfl⟩
theorem k_w2 : GdOk (g_w2 M M2 O O2 e e2 d) M M2 O O2 := ⟨by kernel_rfl, by kernel_rfl⟩
theorem k_t1 : GdOk (g_t1 M M2 O) M M2 O O := ⟨by kernel_rfl, by kernel_rfl⟩
theorem k_t20 : GdOk (g_t2 M M2 O 0 tkW false) M M2 O O := ⟨by kernel_rfl, by kernel_rfl⟩
theorem k_t21 : GdOk (g_t2 M M2 O 1 tkW false) M M2 O O := ⟨by kernel_rfl, by kernel_rfl⟩
theorem k_t22 : GdOk (g_t2 M M2 O 2 tkW false) M M2 O O := ⟨by kernel_rfl, by kernel_rfl⟩
theorem k_t23 : GdOk (g_t2 M M2 O 3 .nilFunc true) M M2 O O := ⟨by kernel_rfl, by kernel_rfl⟩
theorem k_n1 : GdOk (g_n1 h y th most n p) M M O O := ⟨by kernel_rfl, by kernel_rfl⟩
theorem k_n2 : GdOk (g_n2 e m y most d) M M O O := ⟨by kernel_rfl, by kernel_rfl⟩
theorem k_n3 : GdOk (g_n3 e m y most d) M M O O := ⟨by kernel_rfl, by kernel_rfl⟩
theorem k_n4 : GdOk (g_n4 m y most) M M O O := ⟨by kernel_rfl, by kernel_rfl⟩
end
end Go.Proofs.YtofbdgmknfbkfaaGreatDoor.nodesLife
namespace Go.Proofs.YtofbdgmknfbkfaaGreatDoor.nodesLife
open Go Go.Mini
/-! ### the lines, wherever they lie -/
theorem mld_ok {M : PM} {a : A3} {l : List QI} (h : QOk l) : QOk (mld M (mapO M.ms) a (getW M.ms a) (M.load a) :: l) := ⟨fun s hs => pload_at (b := 7) (bm := 8) (m := M) (hs (7, mo7 M) (by simp)) (hs (8, mapO M.ms) (by simp)) a, h⟩
theorem mld_ok' {M : PM} {a : A3} {n : Nat} {l : List QI} (e : getW M.ms a = n) (h : QOk l) : QOk (mld M (mapO M.ms) a n (M.load a) :: l) := by
  subst e
  exact mld_ok h
theorem mst_ok {M : PM} {a : A3} (h0 : 0 ≤ a.1) {u : Nat} {l : List QI} (h : QOk l) : QOk (mst M (mapO M.ms) a u (M.store a u) (mapO (M.store a u).ms) :: l) := ⟨fun s hs => pstore_at (b := 7) (bm := 8) (m := M) (hs (7, mo7 M) (by simp)) (hs (8, mapO M.ms) (by simp)) a h0 u, h⟩
theorem mcs_ok {M : PM} {a : A3} (h0 : 0 ≤ a.1) {w u : Nat} {d : Bool} (hd : M.casd a w = d) {l : List QI} (h : QOk l) : QOk (mcs M (mapO M.ms) a w u d (M.cas a w u) (mapO (M.cas a w u).ms) :: l) := by
  subst hd
  exact ⟨fun s hs => pcas_at (b := 7) (bm := 8) (m := M) (hs (7, mo7 M) (by simp)) (hs (8, mapO M.ms) (by simp)) a h0 w u, h⟩
theorem ash_ok {w : Nat} (hw : w < 18446744073709551616) {l : List QI} (h : QOk l) : QOk (ashQ w (slI w) (tgN w) :: l) := ⟨fun s hs => ashead_call w hw s hs, h⟩
theorem head_ok {x : Int} {t : Nat} (hx : slR x) (ht : t < 18446744073709551616) {l : List QI} (h : QOk l) : QOk (headQ x t (hdN x t) :: l) := ⟨fun s hs => head_call x t (by unfold slR at hx; omega) (by unfold slR at hx; omega) ht s hs, h⟩
theorem asr_ok {w : Nat} (hw : w < 18446744073709551616) {l : List QI} (h : QOk l) : QOk (asrQ w (hs w) (hg w) :: l) := ⟨fun s hs => phead w hw s hs, h⟩
theorem hdr_ok {s g : Nat} (hs4 : s ≤ 4) (hg' : g < 4294967296) {l : List QI} (h : QOk l) : QOk (hdrQ s g (mkw s g) :: l) := ⟨fun st hs => header_call s g hs4 hg' st hs, h⟩
theorem v_ok {x v : AV} (e : x = v) {l : List QI} (h : QOk l) : QOk (vQ x v :: l) := ⟨congrArg some e, h⟩
theorem vb_ok {p : Prop} [Decidable p] (hp : p) {l : List QI} (h : QOk l) : QOk (vQ (.bool (decide p)) (.bool true) :: l) := v_ok (by rw [decide_eq_true hp]) h
theorem vn_ok {p : Prop} [Decidable p] (hp : ¬ p) {l : List QI} (h : QOk l) : QOk (vQ (.bool (decide p)) (.bool false) :: l) := v_ok (by rw [decide_eq_false hp]) h
theorem tg_ok {w : Nat} (_ : w < 18446744073709551616) : AV.int .u64 (Int.ofNat ((tgN w + 1) % ((2 : Int) ^ IntKind.u64.bits).natAbs)) = u64 (tgN w + 1) := by
  rw [nat64]
  unfold tgN
  rw [Nat.mod_eq_of_lt (by omega)]
  rfl
theorem sg_ok {z : Nat} (hz : z < 256) : AV.int .i64 (IntKind.i64.wrap ((Int.ofNat z).tdiv (Int.ofNat 8))) = i64 (Int.ofNat (z / 8)) := by
  show AV.int .i64 (IntKind.i64.wrap (Int.ofNat (z / 8))) = _
  rw [i64_wrap (by simp only [Int.ofNat_eq_natCast]; omega) (by simp only [Int.ofNat_eq_natCast]; omega)]
  rfl
theorem inc_ok {n : Nat} : AV.int .u64 (Int.ofNat ((n + 1) % ((2 : Int) ^ IntKind.u64.bits).natAbs)) = u64 ((n + 1) % 18446744073709551616) := by
  rw [nat64]
  rfl
abbrev SF (f : FuncId) (args : List AV) (v : AV) (M M2 : PM) (C C' : List (Nat × AObj)) (κ : Nat → Nat) : Prop := StepF Tryz.prog GF 24 f args v (memP M ++ C) (memP M2 ++ C') κ
theorem stp {g : GD} {M M2 : PM} {v : AV} (hk : GdOk g M M2 (mapO M.ms) (mapO M2.ms)) (hq : QOk g.qs) (hw : g.w = v.ren (kl g.kl)) : SF g.f g.args v M M2 g.C g.C' (kl g.kl) := g_step hk.1 hq hk.2 hw
section
variable {M : PM} {h n e : Nat} {x : Int} {z g : Nat}
theorem tgN_lt (w : Nat) (_ : w < 18446744073709551616) : tgN w + 1 < 18446744073709551616 := by unfold tgN; omega
theorem s_a1n (hl : Lt M) (hn : slI (getW M.ms aF) < 0) : SF 36 aA (.bool true) M (M.load aF) (bA 1 h x) (bA0 (getW M.ms aF) x) (kl []) :=
  stp (k_a1n M (M.load aF) (mapO M.ms) h (getW M.ms aF) (tgN (getW M.ms aF)) (slI (getW M.ms aF)) x) (mld_ok (ash_ok (hl _) (vb_ok hn trivial))) rfl
theorem s_a1y (hl : Lt M) (hn : ¬ slI (getW M.ms aF) < 0) : SF 36 aA (.bool false) M (M.load aF) (bA 1 h x) (bA 2 (getW M.ms aF) x) (kl []) :=
  stp (k_a1y M (M.load aF) (mapO M.ms) h (getW M.ms aF) (tgN (getW M.ms aF)) (slI (getW M.ms aF)) x) (mld_ok (ash_ok (hl _) (vn_ok hn trivial))) rfl
theorem s_a2 (hl : Lt M) (hh : h < 18446744073709551616) (e : slI h = Int.ofNat z) : SF 36 aA (.bool false) M (M.load (aZ z 2)) (bA 2 h x) (bA 3 h (slI (getW M.ms (aZ z 2)))) (kl []) :=
  stp (k_a2 M (M.load (aZ z 2)) (mapO M.ms) h (getW M.ms (aZ z 2)) (tgN h) (tgN (getW M.ms (aZ z 2))) (Int.ofNat z) x (slI (getW M.ms (aZ z 2)))) (by rw [← e]; exact ash_ok hh (by rw [e]; exact mld_ok (ash_ok (hl _) trivial))) rfl
theorem s_a3n (hh : h < 18446744073709551616) (hx : slR x) (hc : M.casd aF h = false) : SF 36 aA (.bool false) M (M.cas aF h (hdN x (tgN h + 1))) (bA 3 h x) (bA 1 h x) (kl []) :=
  stp (k_a3n M (M.cas aF h (hdN x (tgN h + 1))) (mapO M.ms) (mapO (M.cas aF h (hdN x (tgN h + 1))).ms) h (hdN x (tgN h + 1)) (tgN h) (tgN h + 1) (slI h) x) (ash_ok hh (v_ok (tg_ok hh) (head_ok hx (tgN_lt h hh) (mcs_ok (by decide) hc trivial)))) rfl
theorem s_a3y (hh : h < 18446744073709551616) (hx : slR x) (hc : M.casd aF h = true) : SF 36 aA (.bool false) M (M.cas aF h (hdN x (tgN h + 1))) (bA 3 h x) (bB 2 0 h (slI h) x) (kl []) :=
  stp (k_a3y M (M.cas aF h (hdN x (tgN h + 1))) (mapO M.ms) (mapO (M.cas aF h (hdN x (tgN h + 1))).ms) h (hdN x (tgN h + 1)) (tgN h) (tgN h + 1) (slI h) x) (ash_ok hh (v_ok (tg_ok hh) (head_ok hx (tgN_lt h hh) (mcs_ok (by decide) hc (ash_ok hh trivial))))) rfl
theorem s_a4 (hz : z < 16) (h1 : getW M.ms (aSg (z / 8) 0) = 1) : SF 36 aA (.bool false) M (M.load (aSg (z / 8) 0)) (bB 2 0 h (Int.ofNat z) x) (bB 3 0 h (Int.ofNat z) x) (kl []) :=
  stp (k_a4 M (M.load (aSg (z / 8) 0)) (mapO M.ms) h (Int.ofNat z) x (Int.ofNat (z / 8))) (v_ok (sg_ok (by omega)) (mld_ok' h1 trivial)) rfl
theorem s_a5 : SF 36 aA (.bool false) M (M.load aEra) (bB 3 0 h (Int.ofNat z) x) (bB 4 (getW M.ms aEra) h (Int.ofNat z) x) (kl []) :=
  stp (k_a5 M (M.load aEra) (mapO M.ms) h (getW M.ms aEra) (Int.ofNat z) x) (mld_ok trivial) rfl
theorem s_a6 : SF 36 aA (.bool false) M (M.store (aZ z 1) e) (bB 4 e h (Int.ofNat z) x) (bH e (Int.ofNat z) 0 false) (kl [(16, 26), (17, 25)]) :=
  stp (k_a6 M (M.store (aZ z 1) e) (mapO M.ms) (mapO (M.store (aZ z 1) e).ms) h e (Int.ofNat z) x) (mst_ok (a := aZ z 1) (show (0 : Int) ≤ 9 by decide) trivial) rfl
theorem s_a7 (hl : Lt M) : SF 36 aA (.bool false) M (M.load (aZ z 0)) (bH e (Int.ofNat z) 0 false) (bH e (Int.ofNat z) (hg (getW M.ms (aZ z 0))) true) (kl []) :=
  stp (k_a7 M (M.load (aZ z 0)) (mapO M.ms) (getW M.ms (aZ z 0)) e (hg (getW M.ms (aZ z 0))) (hs (getW M.ms (aZ z 0))) (Int.ofNat z)) (mld_ok (a := aZ z 0) (asr_ok (hl _) trivial)) rfl
theorem s_a8 (hg' : g < 4294967296) : SF 36 aA (.bool true) M (M.store (aZ z 0) (mkw 1 g)) (bH e (Int.ofNat z) g true) (bE e (Int.ofNat z) g) (kl []) :=
  stp (k_a8 M (M.store (aZ z 0) (mkw 1 g)) (mapO M.ms) (mapO (M.store (aZ z 0) (mkw 1 g)).ms) (mkw 1 g) e g (Int.ofNat z)) (hdr_ok (by decide) hg' (mst_ok (a := aZ z 0) (show (0 : Int) ≤ 9 by decide) trivial)) rfl
end
/-- The blocks of a Free, by its line. -/
def frAt (most : Nat) : Fr → List (Nat × AObj) → Prop
  | .f1 z, C => C = fH 1 (Int.ofNat z) 0 false most
  | .f2 z g, C => C = fH 1 (Int.ofNat z) g true most
  | .f3 z, C => ∃ g, C = fH 2 (Int.ofNat z) g true most
  | .p1 z h, C => C = fP 1 1 h (Int.ofNat z)
  | .p2 z h, C => C = fP 1 2 h (Int.ofNat z)
  | .p3 z h, C => C = fP 1 3 h (Int.ofNat z)
  | .c1 z n, C => C = fC 1 0 (Int.ofNat z) (Int.ofNat (z / 8)) n false
  | .c2 z n, C => C = fC 1 0 (Int.ofNat z) (Int.ofNat (z / 8)) n true
/-- What a Free is, when it is over. -/
def frEnd (C : List (Nat × AObj)) : Prop := ∃ z d got o, C = [(15, frO z d 0 got), (16, o)] ∧ (d = pshI ∨ d = cntI) ∧ o.rw = true ∧ o.names (fun _ => false) = true
/-- Names that stay. -/
def Low (κ : Nat → Nat) : Prop := ∀ b, (b ≤ 14 ∨ 18 ≤ b ∧ b < 24) → κ b = b
theorem add32 {g : Nat} (h : g + 1 < 4294967296) : AV.int .u32 (Int.ofNat ((g + 1) % ((2 : Int) ^ IntKind.u32.bits).natAbs)) = u32 (g + 1) := by
  show AV.int .u32 (Int.ofNat ((g + 1) % 4294967296)) = _
  rw [Nat.mod_eq_of_lt h]
  rfl
theorem low_kl {l : List (Nat × Nat)} (h : l.all (fun x => Nat.ble 15 x.1 && Nat.ble x.1 17) = true) : Low (kl l) := fun b hb => by
  induction l with
  | nil => rfl
  | cons x t ih =>
    simp only [List.all_cons, Bool.and_eq_true] at h
    show (bif Nat.beq x.1 b then x.2 else kl t b) = b
    have h1 := Nat.le_of_ble_eq_true h.1.1
    have h2 := Nat.le_of_ble_eq_true h.1.2
    rw [show Nat.beq x.1 b = false from by cases e : Nat.beq x.1 b <;> first | rfl | (have := Nat.eq_of_beq_eq_true e; omega)]
    exact ih h.2
def isN (o : Option Fr) : Bool := match o with
  | none => true
  | some _ => false
def FrS (most : Nat) (M M' : PM) (o : Option Fr) (C : List (Nat × AObj)) : Prop := ∃ C' κ, SF 40 aA (.bool (isN o)) M M' C C' κ ∧ Low κ ∧ κ 15 = 15 ∧ (∀ x', o = some x' → frAt most x' C') ∧ (o = none → frEnd C')
theorem FrS.to {most : Nat} {M M' : PM} {o : Option Fr} {C : List (Nat × AObj)} {r : PM × Option Fr} (h : r = (M', o)) (J : FrS most M M' o C) : FrS most M r.1 r.2 C := by
  rw [h]
  exact J
theorem FrS.go {most : Nat} {M M' : PM} {x' : Fr} {C C' : List (Nat × AObj)} {κ : Nat → Nat} (h : SF 40 aA (.bool false) M M' C C' κ) (hl : Low κ) (h15 : κ 15 = 15) (hf : frAt most x' C') : FrS most M M' (some x') C := ⟨C', κ, h, hl, h15, fun y e => by cases e; exact hf, fun e => by cases e⟩
theorem FrS.fin {most : Nat} {M M' : PM} {C C' : List (Nat × AObj)} {κ : Nat → Nat} (h : SF 40 aA (.bool true) M M' C C' κ) (hl : Low κ) (h15 : κ 15 = 15) (hf : frEnd C') : FrS most M M' none C := ⟨C', κ, h, hl, h15, fun y e => (by cases e), fun _ => hf⟩
/-- A Free's step, wherever it lies. -/
theorem s_free {most K : Nat} {M : PM} {FL : List Nat} {th : Nat → Th} {G : List RefP} {k s0 : Nat} (I : Inv most K M FL th G) (hk : k < 3) (hm : most < 4294967296) (_ : s0 = 1 ∨ s0 = 2) {x : Fr} (hx : frOk most M s0 x) (hz : x.z ∈ own (th k))
    (hw : ∀ z h, x = .p2 z h ∨ x = .p3 z h → h < 18446744073709551616) {C : List (Nat × AObj)} (hC : frAt most x C) :
    FrS most M (fgo most M x).1 (fgo most M x).2 C := by
  have z16 : x.z < 16 := I.rO k hk _ hz
  have hl := I.lt
  cases x with
  | f1 z =>
    subst hC
    exact FrS.to rfl (FrS.go (stp (k_f1 M (M.load (aZ z 0)) (mapO M.ms) (getW M.ms (aZ z 0)) (hg (getW M.ms (aZ z 0))) (hs (getW M.ms (aZ z 0))) most (Int.ofNat z)) (mld_ok (a := aZ z 0) (asr_ok (hl _) trivial)) rfl) (low_kl rfl) rfl rfl)
  | f2 z g =>
    subst hC
    have z16 : z < 16 := z16
    by_cases hg' : most ≤ g
    · have eg : g = most := Nat.le_antisymm hx.1 hg'
      have e : fgo most M (.f2 z g) = (M.store (aZ z 0) (mkw 4 g), some (.c1 z 0)) := by simp only [fgo, if_pos hg']
      exact FrS.to e (FrS.go (stp (k_f2g M (M.store (aZ z 0) (mkw 4 g)) (mapO M.ms) (mapO (M.store (aZ z 0) (mkw 4 g)).ms) (mkw 4 g) g most (Int.ofNat z) (Int.ofNat (z / 8))) (vb_ok (by simp only [Int.ofNat_eq_natCast]; omega) (hdr_ok (by decide) (by omega) (mst_ok (a := aZ z 0) (show (0 : Int) ≤ 9 by decide) (v_ok (sg_ok (by omega)) trivial)))) rfl) (low_kl rfl) rfl rfl)
    · have e : fgo most M (.f2 z g) = (M.store (aZ z 0) (mkw 0 (g + 1)), some (.f3 z)) := by simp only [fgo, if_neg hg']
      exact FrS.to e (FrS.go (stp (k_f2y M (M.store (aZ z 0) (mkw 0 (g + 1))) (mapO M.ms) (mapO (M.store (aZ z 0) (mkw 0 (g + 1))).ms) (mkw 0 (g + 1)) g (g + 1) most (Int.ofNat z)) (vn_ok (by simp only [Int.ofNat_eq_natCast]; omega) (v_ok (add32 (by omega)) (hdr_ok (by decide) (by omega) (mst_ok (a := aZ z 0) (show (0 : Int) ≤ 9 by decide) trivial)))) rfl) (low_kl rfl) rfl ⟨_, rfl⟩)
  | f3 z =>
    obtain ⟨g, rfl⟩ := hC
    have z16 : z < 16 := z16
    have h1 : getW M.ms (aSg (z / 8) 0) = 1 := by
      have : z / 8 = 0 ∨ z / 8 = 1 := by omega
      rcases this with e | e <;> rw [e]
      · exact I.con.s0
      · exact I.con.s1
    exact FrS.to rfl (FrS.go (stp (k_f3 M (M.load (aSg (z / 8) 0)) (mapO M.ms) g most (Int.ofNat z) (Int.ofNat (z / 8))) (vn_ok (by simp only [Int.ofNat_eq_natCast]; omega) (vn_ok (by simp only [Int.ofNat_eq_natCast]; omega) (v_ok (sg_ok (by omega)) (mld_ok' h1 trivial)))) rfl) (low_kl rfl) rfl rfl)
  | p1 z h =>
    subst hC
    exact FrS.to rfl (FrS.go (stp (k_p1 M (M.load aF) (mapO M.ms) h (getW M.ms aF) (tgN (getW M.ms aF)) (Int.ofNat z) (slI (getW M.ms aF))) (mld_ok (ash_ok (hl _) trivial)) rfl) (low_kl rfl) rfl rfl)
  | p2 z h =>
    subst hC
    have hh := hw z h (.inl rfl)
    exact FrS.to rfl (FrS.go (stp (k_p2 M (M.store (aZ z 2) (hdN (slI h) 0)) (mapO M.ms) (mapO (M.store (aZ z 2) (hdN (slI h) 0)).ms) h (hdN (slI h) 0) (tgN h) (Int.ofNat z) (slI h)) (ash_ok hh (head_ok (slI_R h) (by decide) (mst_ok (a := aZ z 2) (show (0 : Int) ≤ 9 by decide) trivial))) rfl) (low_kl rfl) rfl rfl)
  | p3 z h =>
    subst hC
    have z16 : z < 16 := z16
    have hh := hw z h (.inr rfl)
    have hzR : slR (Int.ofNat z) := .inr ⟨by simp only [Int.ofNat_eq_natCast]; omega, by simp only [Int.ofNat_eq_natCast]; omega⟩
    cases hc : M.casd aF h with
    | false =>
      have e : fgo most M (.p3 z h) = (M.cas aF h (hdN (Int.ofNat z) (tgN h + 1)), some (.p1 z h)) := by simp [fgo, hc]
      exact FrS.to e (FrS.go (stp (k_p3n M (M.cas aF h (hdN (Int.ofNat z) (tgN h + 1))) (mapO M.ms) (mapO (M.cas aF h (hdN (Int.ofNat z) (tgN h + 1))).ms) h (hdN (Int.ofNat z) (tgN h + 1)) (tgN h) (tgN h + 1) (Int.ofNat z) (slI h)) (ash_ok hh (v_ok (tg_ok hh) (head_ok hzR (tgN_lt h hh) (mcs_ok (by decide) hc trivial)))) rfl) (low_kl rfl) rfl rfl)
    | true =>
      have e : fgo most M (.p3 z h) = (M.cas aF h (hdN (Int.ofNat z) (tgN h + 1)), none) := by simp [fgo, hc]
      exact FrS.to e (FrS.fin (stp (k_p3y M (M.cas aF h (hdN (Int.ofNat z) (tgN h + 1))) (mapO M.ms) (mapO (M.cas aF h (hdN (Int.ofNat z) (tgN h + 1))).ms) h (hdN (Int.ofNat z) (tgN h + 1)) (tgN h) (tgN h + 1) (Int.ofNat z) (slI h)) (ash_ok hh (v_ok (tg_ok hh) (head_ok hzR (tgN_lt h hh) (mcs_ok (by decide) hc trivial)))) rfl) (low_kl rfl) rfl ⟨_, _, _, _, rfl, .inl rfl, rfl, rfl⟩)
  | c1 z n =>
    subst hC
    exact FrS.to rfl (FrS.go (stp (k_c1 M (M.load (aSg (z / 8) 1)) (mapO M.ms) n (getW M.ms (aSg (z / 8) 1)) (Int.ofNat z) (Int.ofNat (z / 8))) (mld_ok (a := aSg (z / 8) 1) trivial) rfl) (low_kl rfl) rfl rfl)
  | c2 z n =>
    subst hC
    cases hc : M.casd (aSg (z / 8) 1) n with
    | false =>
      have e : fgo most M (.c2 z n) = (M.cas (aSg (z / 8) 1) n ((n + 1) % 18446744073709551616), some (.c1 z n)) := by simp [fgo, hc]
      exact FrS.to e (FrS.go (stp (k_c2n M (M.cas (aSg (z / 8) 1) n ((n + 1) % 18446744073709551616)) (mapO M.ms) (mapO (M.cas (aSg (z / 8) 1) n ((n + 1) % 18446744073709551616)).ms) n ((n + 1) % 18446744073709551616) (Int.ofNat z) (Int.ofNat (z / 8))) (v_ok inc_ok (mcs_ok (a := aSg (z / 8) 1) (show (0 : Int) ≤ 6 by decide) hc trivial)) rfl) (low_kl rfl) rfl rfl)
    | true =>
      have e : fgo most M (.c2 z n) = (M.cas (aSg (z / 8) 1) n ((n + 1) % 18446744073709551616), none) := by simp [fgo, hc]
      exact FrS.to e (FrS.fin (stp (k_c2y M (M.cas (aSg (z / 8) 1) n ((n + 1) % 18446744073709551616)) (mapO M.ms) (mapO (M.cas (aSg (z / 8) 1) n ((n + 1) % 18446744073709551616)).ms) n ((n + 1) % 18446744073709551616) (Int.ofNat z) (Int.ofNat (z / 8))) (v_ok inc_ok (mcs_ok (a := aSg (z / 8) 1) (show (0 : Int) ≤ 6 by decide) hc trivial)) rfl) (low_kl rfl) rfl ⟨_, _, _, _, rfl, .inr rfl, rfl, rfl⟩)
end Go.Proofs.YtofbdgmknfbkfaaGreatDoor.nodesLife
